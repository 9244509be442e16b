/- The machine computes them. -/
import Derived.Test.YtnkkafeaaogffaaG2
import Derived.Test.YtnkkafeaaogffaaWc
import Derived.Test.YtnkkafeaaogffaaProg
import Derived.KernelRfl
set_option linter.unusedVariables false
namespace Go.Vm
open Go Go.Proofs
abbrev yL05Cur : Ty := (.fld .str (.fld (.int .i64) (.fld .bool .nil)))
abbrev yEvent : Ty := (.fld (.int .i64) (.fld (.int .i64) (.fld (.int .i64) (.fld (.int .i64) (.fld (.int .i64) (.fld (.slice 3 (.int .i64)) (.fld .str (.fld (.slice 3 (.int .i64)) (.fld (.int .i64) .nil)))))))))
abbrev yCommand : Ty := (.fld (.int .i64) (.fld (.int .i64) (.fld (.int .i64) (.fld yEvent (.fld (.int .i64) (.fld (.int .i64) .nil))))))
abbrev yItem : Ty := (.fld (.int .i64) (.fld (.int .i64) .nil))
abbrev yRoom : Ty := (.fld (.slice 89 yEvent) (.fld (.slice 88 (.slice 179 yItem)) (.fld (.slice 4 .bool) .nil)))
abbrev ySession : Ty := (.fld (.int .i64) (.fld (.int .i64) (.fld .str .nil)))
abbrev yOut : Ty := (.fld (.int .i64) (.fld (.int .i64) (.fld (.slice 3 (.int .i64)) .nil)))
abbrev yHall : Ty := (.fld (.slice 207 ySession) (.fld yRoom (.fld (.slice 209 yOut) .nil)))
abbrev yRoom1 : Ty := (.fld (.slice 24 yEvent) (.fld (.slice 78 (.slice 129 yItem)) (.fld (.slice 4 .bool) .nil)))
abbrev yHall1 : Ty := (.fld (.slice 149 ySession) (.fld yRoom1 (.fld (.slice 151 yOut) .nil)))
abbrev yL01Cur : Ty := (.fld (.slice 5 (.int .u8)) (.fld (.int .i64) (.fld (.int .i64) .nil)))
abbrev yLog : Ty := (.fld (.int .i64) (.fld (.int .i64) (.fld (.slice 65 ySession) .nil)))
noncomputable def c_s_l05Take (k : Nat) : Cfg := { eqs := [], tab := [(3, (.int .i64)), (4, .bool), (9, .str), (132, yL05Cur)], spec := [], mspec := [], inl := [(189, Try.f189)], keep := [], join := [], hold := [], ptrs := [], maps := [], fuel := k }
noncomputable def fin_s_l05Take : VV → Ms → Option (ByteArray × TL05Cur × Unit) := finM [.str] [] [.box yL05Cur, .imm (.int .i64)]
theorem r_s_l05Take (k : Nat) (a0 : TL05Cur) (a1 : Int) : runX (c_s_l05Take k) fin_s_l05Take k 189 (pArgsV 1 [.box yL05Cur, .imm (.int .i64)] (a0, a1, ())) (ms1 [.box yL05Cur, .imm (.int .i64)] (a0, a1, ())) = s_l05Take k a0 a1 := by kernel_rfl
noncomputable def sp_s_l05Take (k : Nat) : MSpec := .box yL05Cur fun (a0 : TL05Cur) => .imm (.int .i64) fun (a1 : Int) => .body (s_l05Take k a0 a1) (fun r => outV [.str] [] r.1) (fun r => poV [.box yL05Cur, .imm (.int .i64)] r.2)
noncomputable def c_s_l09One (k : Nat) : Cfg := { eqs := [], tab := [(3, (.int .i64)), (4, .bool), (5, (.int .u8)), (9, .str), (132, yL05Cur)], spec := [], mspec := [(189, sp_s_l05Take k)], inl := [(97, Try.f97)], keep := [], join := [], hold := [], ptrs := [], maps := [], fuel := k }
noncomputable def fin_s_l09One : VV → Ms → Option (Int × TL05Cur × Unit) := finM [(.int .i64)] [] [.box yL05Cur]
theorem r_s_l09One (k : Nat) (a0 : TL05Cur) : runX (c_s_l09One k) fin_s_l09One k 97 (pArgsV 1 [.box yL05Cur] (a0, ())) (ms1 [.box yL05Cur] (a0, ())) = s_l09One k a0 := by kernel_rfl
noncomputable def sp_s_l09One (k : Nat) : MSpec := .box yL05Cur fun (a0 : TL05Cur) => .body (s_l09One k a0) (fun r => outV [(.int .i64)] [] r.1) (fun r => poV [.box yL05Cur] r.2)
noncomputable def c_s_l01In (k : Nat) : Cfg := { eqs := [], tab := [], spec := [], mspec := [], inl := [(128, Try.f128)], keep := [], join := [], hold := [], ptrs := [], maps := [], fuel := k }
noncomputable def fin_s_l01In : VV → Ms → Option Bool := finV [.bool] []
theorem r_s_l01In (k : Nat) (a0 : Int) (a1 : Int) (a2 : Int) : runX (c_s_l01In k) fin_s_l01In k 128 [argV (.int .i64) a0, argV (.int .i64) a1, argV (.int .i64) a2] ms0 = s_l01In k a0 a1 a2 := by kernel_rfl
noncomputable def sp_s_l01In (k : Nat) : Spec := .imm (.int .i64) fun (a0 : Int) => .imm (.int .i64) fun (a1 : Int) => .imm (.int .i64) fun (a2 : Int) => .body (s_l01In k a0 a1 a2) (outV [.bool] [])
noncomputable def c_s_l01Var (k : Nat) : Cfg := { eqs := [], tab := [(3, (.int .i64)), (5, (.int .u8)), (9, .str), (53, (.slice 5 (.int .u8)))], spec := [], mspec := [], inl := [(138, Try.f138)], keep := [(13800001002, [0, 3])], join := [], hold := [], ptrs := [], maps := [], fuel := k }
noncomputable def fin_s_l01Var : VV → Ms → Option ByteArray := finV [.str] []
noncomputable def V0_s_l01Var (k n : Nat) (a0 : Int) (xs1 : List Int) : Option ByteArray := lpN (c_s_l01Var k) fin_s_l01Var n true 13800001002 (cd [1, 1, 0, 0, 0] (bo Try.f138)) [.b 0, .s (cd [1, 1, 1] (bo Try.f138)), .fn Try.f138] ⟨⟨(mkT 22 0 [(0, one (.int .i64 a0)), (3, one (.row 9000000 none none))]), [(9000000, .row 5 (.int .u8) xs1 true)]⟩, 13800001000, 1, [(0, (mkT 0 0 []))]⟩
theorem t0_s_l01Var (k n : Nat) (a0 : Int) (xs1 : List Int) : V0_s_l01Var k (n + 1) a0 xs1 = b0_s_l01Var k (V0_s_l01Var k n) a0 xs1 := by kernel_rfl
theorem e_s_l01Var (k : Nat) : ∀ n : Nat, V0_s_l01Var k n = l0_s_l01Var k n
  | 0 => (by funext a0 xs1; rfl)
  | n + 1 => by
    obtain h0 := e_s_l01Var k n
    exact (by funext a0 xs1; rw [t0_s_l01Var, h0] <;> rfl)
theorem u_s_l01Var (k : Nat) (a0 : Int) : runX (c_s_l01Var k) fin_s_l01Var k 138 [argV (.int .i64) a0] ms0 = g_s_l01Var k (V0_s_l01Var k k) a0 := by kernel_rfl
theorem r_s_l01Var (k : Nat) (a0 : Int) : runX (c_s_l01Var k) fin_s_l01Var k 138 [argV (.int .i64) a0] ms0 = s_l01Var k a0 := by rw [u_s_l01Var, show V0_s_l01Var k k = l0_s_l01Var k k from (e_s_l01Var k k)] <;> rfl
noncomputable def sp_s_l01Var (k : Nat) : Spec := .imm (.int .i64) fun (a0 : Int) => .body (s_l01Var k a0) (outV [.str] [])
noncomputable def c_s_ReadVar (k : Nat) : Cfg := { eqs := [], tab := [(3, (.int .i64)), (5, (.int .u8)), (9, .str)], spec := [(128, sp_s_l01In k), (138, sp_s_l01Var k)], mspec := [], inl := [(190, Try.f190)], keep := [(19000001006, [0, 1, 7, 8, 9])], join := [], hold := [], ptrs := [], maps := [], fuel := k }
noncomputable def fin_s_ReadVar : VV → Ms → Option (Int × Int × Bool) := finV [(.int .i64), (.int .i64), .bool] []
noncomputable def V0_s_ReadVar (k n : Nat) (a0 : ByteArray) (a1 : Int) (v1 : Int) (v2 : Int) (v3 : Int) : Option (Int × Int × Bool) := lpN (c_s_ReadVar k) fin_s_ReadVar n true 19000001006 (cd [1, 1, 1, 1, 0, 1, 0, 0] (bo Try.f190)) [.b 0, .s (cd [1, 1, 1, 1, 1] (bo Try.f190)), .fn Try.f190] ⟨⟨(mkT 58 0 [(0, one (.str a0)), (1, one (.int .i64 a1)), (7, one (.int .i64 v1)), (8, one (.int .i64 v2)), (9, one (.int .i64 v3))]), []⟩, 19000001000, 1, [(0, (mkT 0 0 []))]⟩
theorem t0_s_ReadVar (k n : Nat) (a0 : ByteArray) (a1 : Int) (v1 : Int) (v2 : Int) (v3 : Int) : V0_s_ReadVar k (n + 1) a0 a1 v1 v2 v3 = b0_s_ReadVar k (V0_s_ReadVar k n) a0 a1 v1 v2 v3 := by kernel_rfl
theorem e_s_ReadVar (k : Nat) : ∀ n : Nat, V0_s_ReadVar k n = l0_s_ReadVar k n
  | 0 => (by funext a0 a1 v1 v2 v3; rfl)
  | n + 1 => by
    obtain h0 := e_s_ReadVar k n
    exact (by funext a0 a1 v1 v2 v3; rw [t0_s_ReadVar, h0] <;> rfl)
theorem u_s_ReadVar (k : Nat) (a0 : ByteArray) (a1 : Int) : runX (c_s_ReadVar k) fin_s_ReadVar k 190 [argV .str a0, argV (.int .i64) a1] ms0 = g_s_ReadVar k (V0_s_ReadVar k k) a0 a1 := by kernel_rfl
theorem r_s_ReadVar (k : Nat) (a0 : ByteArray) (a1 : Int) : runX (c_s_ReadVar k) fin_s_ReadVar k 190 [argV .str a0, argV (.int .i64) a1] ms0 = s_ReadVar k a0 a1 := by rw [u_s_ReadVar, show V0_s_ReadVar k k = l0_s_ReadVar k k from (e_s_ReadVar k k)] <;> rfl
noncomputable def sp_s_ReadVar (k : Nat) : Spec := .imm .str fun (a0 : ByteArray) => .imm (.int .i64) fun (a1 : Int) => .body (s_ReadVar k a0 a1) (outV [(.int .i64), (.int .i64), .bool] [])
noncomputable def c_s_l05Var (k : Nat) : Cfg := { eqs := [], tab := [(3, (.int .i64)), (4, .bool), (9, .str), (132, yL05Cur)], spec := [(190, sp_s_ReadVar k)], mspec := [], inl := [(98, Try.f98)], keep := [], join := [], hold := [], ptrs := [], maps := [], fuel := k }
noncomputable def fin_s_l05Var : VV → Ms → Option (Int × TL05Cur × Unit) := finM [(.int .i64)] [] [.box yL05Cur]
theorem r_s_l05Var (k : Nat) (a0 : TL05Cur) : runX (c_s_l05Var k) fin_s_l05Var k 98 (pArgsV 1 [.box yL05Cur] (a0, ())) (ms1 [.box yL05Cur] (a0, ())) = s_l05Var k a0 := by kernel_rfl
noncomputable def sp_s_l05Var (k : Nat) : MSpec := .box yL05Cur fun (a0 : TL05Cur) => .body (s_l05Var k a0) (fun r => outV [(.int .i64)] [] r.1) (fun r => poV [.box yL05Cur] r.2)
noncomputable def c_s_l05ReadShort (k : Nat) : Cfg := { eqs := [], tab := [], spec := [], mspec := [(98, sp_s_l05Var k), (189, sp_s_l05Take k)], inl := [(100, Try.f100)], keep := [], join := [], hold := [], ptrs := [], maps := [], fuel := k }
noncomputable def fin_s_l05ReadShort : VV → Ms → Option (ByteArray × TL05Cur × Unit) := finM [.str] [] [.box yL05Cur]
theorem r_s_l05ReadShort (k : Nat) (a0 : TL05Cur) : runX (c_s_l05ReadShort k) fin_s_l05ReadShort k 100 (pArgsV 1 [.box yL05Cur] (a0, ())) (ms1 [.box yL05Cur] (a0, ())) = s_l05ReadShort k a0 := by kernel_rfl
noncomputable def sp_s_l05ReadShort (k : Nat) : MSpec := .box yL05Cur fun (a0 : TL05Cur) => .body (s_l05ReadShort k a0) (fun r => outV [.str] [] r.1) (fun r => poV [.box yL05Cur] r.2)
noncomputable def c_s_l09Levels (k : Nat) : Cfg := { eqs := [], tab := [(3, (.int .i64)), (22, (.slice 3 (.int .i64)))], spec := [(128, sp_s_l01In k)], mspec := [], inl := [(219, Try.f219)], keep := [(21900001002, [0, 3])], join := [], hold := [], ptrs := [], maps := [], fuel := k }
noncomputable def fin_s_l09Levels : VV → Ms → Option Bool := finV [.bool] []
noncomputable def V0_s_l09Levels (k n : Nat) (a0 : List Int) (v1 : Int) : Option Bool := lpN (c_s_l09Levels k) fin_s_l09Levels n true 21900001002 (cd [1, 0, 1, 0, 0] (bo Try.f219)) [.b 0, .s (cd [1, 1] (bo Try.f219)), .fn Try.f219] ⟨⟨(mkT 19 0 [(0, one (.slc 3 (.int .i64) a0)), (3, one (.int .i64 v1))]), []⟩, 21900001000, 1, [(0, (mkT 0 0 []))]⟩
theorem t0_s_l09Levels (k n : Nat) (a0 : List Int) (v1 : Int) : V0_s_l09Levels k (n + 1) a0 v1 = b0_s_l09Levels k (V0_s_l09Levels k n) a0 v1 := by kernel_rfl
theorem e_s_l09Levels (k : Nat) : ∀ n : Nat, V0_s_l09Levels k n = l0_s_l09Levels k n
  | 0 => (by funext a0 v1; rfl)
  | n + 1 => by
    obtain h0 := e_s_l09Levels k n
    exact (by funext a0 v1; rw [t0_s_l09Levels, h0] <;> rfl)
theorem u_s_l09Levels (k : Nat) (a0 : List Int) : runX (c_s_l09Levels k) fin_s_l09Levels k 219 [argV (.slice 3 (.int .i64)) a0] ms0 = g_s_l09Levels k (V0_s_l09Levels k k) a0 := by kernel_rfl
theorem r_s_l09Levels (k : Nat) (a0 : List Int) : runX (c_s_l09Levels k) fin_s_l09Levels k 219 [argV (.slice 3 (.int .i64)) a0] ms0 = s_l09Levels k a0 := by rw [u_s_l09Levels, show V0_s_l09Levels k k = l0_s_l09Levels k k from (e_s_l09Levels k k)] <;> rfl
noncomputable def sp_s_l09Levels (k : Nat) : Spec := .imm (.slice 3 (.int .i64)) fun (a0 : List Int) => .body (s_l09Levels k a0) (outV [.bool] [])
noncomputable def c_s_l09Body (k : Nat) : Cfg := { eqs := [], tab := [(3, (.int .i64)), (9, .str), (22, (.slice 3 (.int .i64))), (24, yEvent)], spec := [(128, sp_s_l01In k), (219, sp_s_l09Levels k)], mspec := [], inl := [(127, Try.f127)], keep := [], join := [], hold := [], ptrs := [], maps := [], fuel := k }
noncomputable def fin_s_l09Body : VV → Ms → Option Bool := finV [.bool] []
theorem r_s_l09Body (k : Nat) (a0 : TEvent) : runX (c_s_l09Body k) fin_s_l09Body k 127 [argV yEvent a0] ms0 = s_l09Body k a0 := by kernel_rfl
noncomputable def sp_s_l09Body (k : Nat) : Spec := .imm yEvent fun (a0 : TEvent) => .body (s_l09Body k a0) (outV [.bool] [])
noncomputable def c_s_EventOk (k : Nat) : Cfg := { eqs := [], tab := [(3, (.int .i64)), (4, .bool), (22, (.slice 3 (.int .i64))), (24, yEvent)], spec := [(127, sp_s_l09Body k), (128, sp_s_l01In k)], mspec := [], inl := [(29, Try.f29)], keep := [(2900001004, [1, 3])], join := [], hold := [], ptrs := [], maps := [], fuel := k }
noncomputable def fin_s_EventOk : VV → Ms → Option Bool := finV [.bool] []
noncomputable def V0_s_EventOk (k n : Nat) (v1 : Int) (a0 : TEvent) : Option Bool := lpN (c_s_EventOk k) fin_s_EventOk n true 2900001004 (cd [1, 1, 0, 1, 0, 0] (bo Try.f29)) [.b 0, .s (cd [1, 1, 1] (bo Try.f29)), .fn Try.f29] ⟨⟨(mkT 77 0 [(1, one (.ptr 9000000 0)), (3, one (.int .i64 v1))]), [(9000000, .box [.int .i64 a0.1, .int .i64 a0.2.1, .int .i64 a0.2.2.1, .int .i64 a0.2.2.2.1, .int .i64 a0.2.2.2.2.1, .slc 3 (.int .i64) a0.2.2.2.2.2.1, .str a0.2.2.2.2.2.2.1, .slc 3 (.int .i64) a0.2.2.2.2.2.2.2.1, .int .i64 a0.2.2.2.2.2.2.2.2.1])]⟩, 2900001000, 1, [(0, (mkT 0 0 []))]⟩
theorem t0_s_EventOk (k n : Nat) (v1 : Int) (a0 : TEvent) : V0_s_EventOk k (n + 1) v1 a0 = b0_s_EventOk k (V0_s_EventOk k n) v1 a0 := by kernel_rfl
theorem e_s_EventOk (k : Nat) : ∀ n : Nat, V0_s_EventOk k n = l0_s_EventOk k n
  | 0 => (by funext v1 a0; rfl)
  | n + 1 => by
    obtain h0 := e_s_EventOk k n
    exact (by funext v1 a0; rw [t0_s_EventOk, h0] <;> rfl)
theorem u_s_EventOk (k : Nat) (a0 : TEvent) : runX (c_s_EventOk k) fin_s_EventOk k 29 [argV yEvent a0] ms0 = g_s_EventOk k (V0_s_EventOk k k) a0 := by kernel_rfl
theorem r_s_EventOk (k : Nat) (a0 : TEvent) : runX (c_s_EventOk k) fin_s_EventOk k 29 [argV yEvent a0] ms0 = s_EventOk k a0 := by rw [u_s_EventOk, show V0_s_EventOk k k = l0_s_EventOk k k from (e_s_EventOk k k)] <;> rfl
noncomputable def sp_s_EventOk (k : Nat) : Spec := .imm yEvent fun (a0 : TEvent) => .body (s_EventOk k a0) (outV [.bool] [])
noncomputable def c_s_l09Byte (k : Nat) : Cfg := { eqs := [], tab := [(3, (.int .i64)), (5, (.int .u8)), (9, .str), (53, (.slice 5 (.int .u8)))], spec := [], mspec := [], inl := [(192, Try.f192)], keep := [], join := [], hold := [], ptrs := [], maps := [], fuel := k }
noncomputable def fin_s_l09Byte : VV → Ms → Option ByteArray := finV [.str] []
theorem r_s_l09Byte (k : Nat) (a0 : Int) : runX (c_s_l09Byte k) fin_s_l09Byte k 192 [argV (.int .i64) a0] ms0 = s_l09Byte k a0 := by kernel_rfl
noncomputable def sp_s_l09Byte (k : Nat) : Spec := .imm (.int .i64) fun (a0 : Int) => .body (s_l09Byte k a0) (outV [.str] [])
noncomputable def c_s_l05Short (k : Nat) : Cfg := { eqs := [], tab := [(9, .str)], spec := [(138, sp_s_l01Var k)], mspec := [], inl := [(194, Try.f194)], keep := [], join := [], hold := [], ptrs := [], maps := [], fuel := k }
noncomputable def fin_s_l05Short : VV → Ms → Option ByteArray := finV [.str] []
theorem r_s_l05Short (k : Nat) (a0 : ByteArray) : runX (c_s_l05Short k) fin_s_l05Short k 194 [argV .str a0] ms0 = s_l05Short k a0 := by kernel_rfl
noncomputable def sp_s_l05Short (k : Nat) : Spec := .imm .str fun (a0 : ByteArray) => .body (s_l05Short k a0) (outV [.str] [])
noncomputable def c_s_l09BodyText (k : Nat) : Cfg := { eqs := [], tab := [(3, (.int .i64)), (9, .str), (22, (.slice 3 (.int .i64))), (24, yEvent)], spec := [(138, sp_s_l01Var k), (192, sp_s_l09Byte k), (194, sp_s_l05Short k)], mspec := [], inl := [(193, Try.f193)], keep := [(19300001003, [1, 3, 4])], join := [], hold := [], ptrs := [], maps := [], fuel := k }
noncomputable def fin_s_l09BodyText : VV → Ms → Option ByteArray := finV [.str] []
noncomputable def V0_s_l09BodyText (k n : Nat) (v1 : ByteArray) (v2 : Int) (a0 : TEvent) : Option ByteArray := lpN (c_s_l09BodyText k) fin_s_l09BodyText n true 19300001003 (cd [1, 1, 0, 1, 0, 0] (bo Try.f193)) [.b 0, .s (cd [1, 1, 1] (bo Try.f193)), .fn Try.f193] ⟨⟨(mkT 45 0 [(1, one (.ptr 9000000 0)), (3, one (.str v1)), (4, one (.int .i64 v2))]), [(9000000, .box [.int .i64 a0.1, .int .i64 a0.2.1, .int .i64 a0.2.2.1, .int .i64 a0.2.2.2.1, .int .i64 a0.2.2.2.2.1, .slc 3 (.int .i64) a0.2.2.2.2.2.1, .str a0.2.2.2.2.2.2.1, .slc 3 (.int .i64) a0.2.2.2.2.2.2.2.1, .int .i64 a0.2.2.2.2.2.2.2.2.1])]⟩, 19300001000, 1, [(0, (mkT 0 0 []))]⟩
theorem t0_s_l09BodyText (k n : Nat) (v1 : ByteArray) (v2 : Int) (a0 : TEvent) : V0_s_l09BodyText k (n + 1) v1 v2 a0 = b0_s_l09BodyText k (V0_s_l09BodyText k n) v1 v2 a0 := by kernel_rfl
theorem e_s_l09BodyText (k : Nat) : ∀ n : Nat, V0_s_l09BodyText k n = l0_s_l09BodyText k n
  | 0 => (by funext v1 v2 a0; rfl)
  | n + 1 => by
    obtain h0 := e_s_l09BodyText k n
    exact (by funext v1 v2 a0; rw [t0_s_l09BodyText, h0] <;> rfl)
theorem u_s_l09BodyText (k : Nat) (a0 : TEvent) : runX (c_s_l09BodyText k) fin_s_l09BodyText k 193 [argV yEvent a0] ms0 = g_s_l09BodyText k (V0_s_l09BodyText k k) a0 := by kernel_rfl
theorem r_s_l09BodyText (k : Nat) (a0 : TEvent) : runX (c_s_l09BodyText k) fin_s_l09BodyText k 193 [argV yEvent a0] ms0 = s_l09BodyText k a0 := by rw [u_s_l09BodyText, show V0_s_l09BodyText k k = l0_s_l09BodyText k k from (e_s_l09BodyText k k)] <;> rfl
noncomputable def sp_s_l09BodyText (k : Nat) : Spec := .imm yEvent fun (a0 : TEvent) => .body (s_l09BodyText k a0) (outV [.str] [])
noncomputable def c_s_EventText (k : Nat) : Cfg := { eqs := [], tab := [(3, (.int .i64)), (22, (.slice 3 (.int .i64))), (24, yEvent)], spec := [(29, sp_s_EventOk k), (138, sp_s_l01Var k), (193, sp_s_l09BodyText k)], mspec := [], inl := [(132, Try.f132)], keep := [(13200001005, [1, 4, 5])], join := [], hold := [], ptrs := [], maps := [], fuel := k }
noncomputable def fin_s_EventText : VV → Ms → Option (ByteArray × Bool) := finV [.str, .bool] []
noncomputable def V0_s_EventText (k n : Nat) (v1 : ByteArray) (v2 : Int) (a0 : TEvent) : Option (ByteArray × Bool) := lpN (c_s_EventText k) fin_s_EventText n true 13200001005 (cd [1, 1, 1, 0, 1, 0, 0] (bo Try.f132)) [.b 0, .s (cd [1, 1, 1, 1] (bo Try.f132)), .fn Try.f132] ⟨⟨(mkT 40 0 [(1, one (.ptr 9000000 0)), (4, one (.str v1)), (5, one (.int .i64 v2))]), [(9000000, .box [.int .i64 a0.1, .int .i64 a0.2.1, .int .i64 a0.2.2.1, .int .i64 a0.2.2.2.1, .int .i64 a0.2.2.2.2.1, .slc 3 (.int .i64) a0.2.2.2.2.2.1, .str a0.2.2.2.2.2.2.1, .slc 3 (.int .i64) a0.2.2.2.2.2.2.2.1, .int .i64 a0.2.2.2.2.2.2.2.2.1])]⟩, 13200001000, 1, [(0, (mkT 0 0 []))]⟩
theorem t0_s_EventText (k n : Nat) (v1 : ByteArray) (v2 : Int) (a0 : TEvent) : V0_s_EventText k (n + 1) v1 v2 a0 = b0_s_EventText k (V0_s_EventText k n) v1 v2 a0 := by kernel_rfl
theorem e_s_EventText (k : Nat) : ∀ n : Nat, V0_s_EventText k n = l0_s_EventText k n
  | 0 => (by funext v1 v2 a0; rfl)
  | n + 1 => by
    obtain h0 := e_s_EventText k n
    exact (by funext v1 v2 a0; rw [t0_s_EventText, h0] <;> rfl)
theorem u_s_EventText (k : Nat) (a0 : TEvent) : runX (c_s_EventText k) fin_s_EventText k 132 [argV yEvent a0] ms0 = g_s_EventText k (V0_s_EventText k k) a0 := by kernel_rfl
theorem r_s_EventText (k : Nat) (a0 : TEvent) : runX (c_s_EventText k) fin_s_EventText k 132 [argV yEvent a0] ms0 = s_EventText k a0 := by rw [u_s_EventText, show V0_s_EventText k k = l0_s_EventText k k from (e_s_EventText k k)] <;> rfl
noncomputable def sp_s_EventText (k : Nat) : Spec := .imm yEvent fun (a0 : TEvent) => .body (s_EventText k a0) (outV [.str, .bool] [])
noncomputable def c_s_ReadEvent (k : Nat) : Cfg := { eqs := [], tab := [(3, (.int .i64)), (4, .bool), (9, .str), (22, (.slice 3 (.int .i64))), (24, yEvent), (132, yL05Cur)], spec := [(132, sp_s_EventText k)], mspec := [(97, sp_s_l09One k), (98, sp_s_l05Var k), (100, sp_s_l05ReadShort k)], inl := [(33, Try.f33), (99, Try.f99)], keep := [(3300001006, [0, 2, 4, 5, 6, 7]), (9900002006, [0, 1, 4, 5])], join := [], hold := [(3300001006, [(5, [0, 7], 3, (.int .i64), false, false)]), (9900002006, [(1, [0, 5], 3, (.int .i64), false, false)])], ptrs := [], maps := [], fuel := k }
noncomputable def fin_s_ReadEvent : VV → Ms → Option (TEvent × Bool) := finV [yEvent, .bool] [true, true]
noncomputable def V1_s_ReadEvent (k n : Nat) (a0 : ByteArray) (v6 : Int) (v7 : Int) (v8 : ByteArray) (v9 : Int) (v10 : Bool) (r1 : Int × TL05Cur × Unit) (r2 : Int × TL05Cur × Unit) (r3 : Int × TL05Cur × Unit) (r4 : Int × TL05Cur × Unit) (r5 : Int × TL05Cur × Unit) (v11 : ByteArray) (xs5 : List Int) (xs12 : List Int) : Option (TEvent × Bool) := lpN (c_s_ReadEvent k) fin_s_ReadEvent n true 3300001006 (cd [1, 1, 1, 1, 1, 0, 1, 0, 0] (bo Try.f33)) [.b 0, .s (cd [1, 1, 1, 1, 1, 1] (bo Try.f33)), .fn Try.f33] ⟨⟨(mkT 66 0 [(0, one (.str a0)), (2, one (.ptr 9000000 0)), (4, one (.ptr 9000001 0)), (5, one (.ptr 9000002 0)), (6, one (.int .i64 v6)), (7, one (.int .i64 v7))]), [(9000000, .box [.int .i64 0, .int .i64 0, .int .i64 0, .int .i64 0, .int .i64 0, .nilS, .str ByteArray.empty, .nilS, .int .i64 0]), (9000001, .box [.str v8, .int .i64 v9, .bool v10]), (9000002, .box [.int .i64 r1.1, .int .i64 r2.1, .int .i64 r3.1, .int .i64 r4.1, .int .i64 r5.1, .row 9000003 none none, .str v11, .row 9000004 none none, .int .i64 0]), (9000003, .row 3 (.int .i64) xs5 true), (9000004, .row 3 (.int .i64) xs12 true)]⟩, 3300001000, 1, [(0, (mkT 0 0 []))]⟩
noncomputable def V0_s_ReadEvent (k n : Nat) (r6 : Int × TL05Cur × Unit) (v1 : Int) (v2 : ByteArray) (v3 : Int) (v4 : Bool) (r1 : Int × TL05Cur × Unit) (r2 : Int × TL05Cur × Unit) (r3 : Int × TL05Cur × Unit) (r4 : Int × TL05Cur × Unit) (r5 : Int × TL05Cur × Unit) (xs5 : List Int) (a0 : ByteArray) : Option (TEvent × Bool) := lpN (c_s_ReadEvent k) fin_s_ReadEvent n true 9900002006 (cd [1, 1, 1, 1, 1, 0, 1, 0, 0] (bo Try.f99)) [.b 0, .s (cd [1, 1, 1, 1, 1, 1] (bo Try.f99)), .fn Try.f99, .op (rg (cd [1, 1, 1, 0] (bo Try.f33))) ((rg (cd [1, 1, 1, 0] (bo Try.f33))).drop 2) 2 (some 17), .s (cd [1, 1, 1, 1] (bo Try.f33)), .fn Try.f33] ⟨⟨(mkT 60 0 [(0, one (.ptr 9000000 0)), (1, one (.ptr 9000001 0)), (4, one (.int .i64 r6.1)), (5, one (.int .i64 v1))]), [(9000000, .box [.str v2, .int .i64 v3, .bool v4]), (9000001, .box [.int .i64 r1.1, .int .i64 r2.1, .int .i64 r3.1, .int .i64 r4.1, .int .i64 r5.1, .row 9000003 none none, .str ByteArray.empty, .nilS, .int .i64 0]), (9000002, .box [.int .i64 0, .int .i64 0, .int .i64 0, .int .i64 0, .int .i64 0, .nilS, .str ByteArray.empty, .nilS, .int .i64 0]), (9000003, .row 3 (.int .i64) xs5 true)]⟩, 9900002000, 2, [(3300001000, (mkT 66 0 [(0, one (.str a0)), (2, one (.ptr 9000002 0)), (3, one (.bool false)), (4, one (.ptr 9000000 0)), (5, one (.ptr 9000001 0)), (10, one (.str a0)), (11, .v ⟨true, [.str a0, .int .i64 0, .bool false]⟩), (12, one (.ptr 9000000 0)), (13, one (.ptr 9000000 0)), (14, one (.int .i64 r1.1)), (15, .v ⟨true, [.int .i64 r1.1, .int .i64 0, .int .i64 0, .int .i64 0, .int .i64 0, .nilS, .str ByteArray.empty, .nilS, .int .i64 0]⟩), (16, one (.ptr 9000000 0))])), (0, (mkT 0 0 []))]⟩
theorem t1_s_ReadEvent (k n : Nat) (a0 : ByteArray) (v6 : Int) (v7 : Int) (v8 : ByteArray) (v9 : Int) (v10 : Bool) (r1 : Int × TL05Cur × Unit) (r2 : Int × TL05Cur × Unit) (r3 : Int × TL05Cur × Unit) (r4 : Int × TL05Cur × Unit) (r5 : Int × TL05Cur × Unit) (v11 : ByteArray) (xs5 : List Int) (xs12 : List Int) : V1_s_ReadEvent k (n + 1) a0 v6 v7 v8 v9 v10 r1 r2 r3 r4 r5 v11 xs5 xs12 = b1_s_ReadEvent k (V1_s_ReadEvent k n) a0 v6 v7 v8 v9 v10 r1 r2 r3 r4 r5 v11 xs5 xs12 := by kernel_rfl
theorem t0_s_ReadEvent (k n : Nat) (r6 : Int × TL05Cur × Unit) (v1 : Int) (v2 : ByteArray) (v3 : Int) (v4 : Bool) (r1 : Int × TL05Cur × Unit) (r2 : Int × TL05Cur × Unit) (r3 : Int × TL05Cur × Unit) (r4 : Int × TL05Cur × Unit) (r5 : Int × TL05Cur × Unit) (xs5 : List Int) (a0 : ByteArray) : V0_s_ReadEvent k (n + 1) r6 v1 v2 v3 v4 r1 r2 r3 r4 r5 xs5 a0 = b0_s_ReadEvent k (V0_s_ReadEvent k n) (V1_s_ReadEvent k n) r6 v1 v2 v3 v4 r1 r2 r3 r4 r5 xs5 a0 := by kernel_rfl
theorem e_s_ReadEvent (k : Nat) : ∀ n : Nat, V1_s_ReadEvent k n = l1_s_ReadEvent k n ∧ V0_s_ReadEvent k n = l0_s_ReadEvent k n
  | 0 => ⟨(by funext a0 v6 v7 v8 v9 v10 r1 r2 r3 r4 r5 v11 xs5 xs12; rfl), (by funext r6 v1 v2 v3 v4 r1 r2 r3 r4 r5 xs5 a0; rfl)⟩
  | n + 1 => by
    obtain ⟨h1, h0⟩ := e_s_ReadEvent k n
    exact ⟨(by funext a0 v6 v7 v8 v9 v10 r1 r2 r3 r4 r5 v11 xs5 xs12; rw [t1_s_ReadEvent, h1] <;> rfl), (by funext r6 v1 v2 v3 v4 r1 r2 r3 r4 r5 xs5 a0; rw [t0_s_ReadEvent, h0, h1] <;> rfl)⟩
theorem u_s_ReadEvent (k : Nat) (a0 : ByteArray) : runX (c_s_ReadEvent k) fin_s_ReadEvent k 33 [argV .str a0] ms0 = g_s_ReadEvent k (V0_s_ReadEvent k k) a0 := by kernel_rfl
theorem r_s_ReadEvent (k : Nat) (a0 : ByteArray) : runX (c_s_ReadEvent k) fin_s_ReadEvent k 33 [argV .str a0] ms0 = s_ReadEvent k a0 := by rw [u_s_ReadEvent, show V0_s_ReadEvent k k = l0_s_ReadEvent k k from (e_s_ReadEvent k k).2] <;> rfl
noncomputable def sp_s_ReadEvent (k : Nat) : Spec := .imm .str fun (a0 : ByteArray) => .body (s_ReadEvent k a0) (outV [yEvent, .bool] [true, true])
noncomputable def c_s_l05SameInts (k : Nat) : Cfg := { eqs := [], tab := [(3, (.int .i64)), (22, (.slice 3 (.int .i64)))], spec := [], mspec := [], inl := [(111, Try.f111)], keep := [(11100001004, [0, 1, 5])], join := [], hold := [], ptrs := [], maps := [], fuel := k }
noncomputable def fin_s_l05SameInts : VV → Ms → Option Bool := finV [.bool] []
noncomputable def V0_s_l05SameInts (k n : Nat) (a0 : List Int) (a1 : List Int) (v1 : Int) : Option Bool := lpN (c_s_l05SameInts k) fin_s_l05SameInts n true 11100001004 (cd [1, 1, 0, 1, 0, 0] (bo Try.f111)) [.b 0, .s (cd [1, 1, 1] (bo Try.f111)), .fn Try.f111] ⟨⟨(mkT 26 0 [(0, one (.slc 3 (.int .i64) a0)), (1, one (.slc 3 (.int .i64) a1)), (5, one (.int .i64 v1))]), []⟩, 11100001000, 1, [(0, (mkT 0 0 []))]⟩
theorem t0_s_l05SameInts (k n : Nat) (a0 : List Int) (a1 : List Int) (v1 : Int) : V0_s_l05SameInts k (n + 1) a0 a1 v1 = b0_s_l05SameInts k (V0_s_l05SameInts k n) a0 a1 v1 := by kernel_rfl
theorem e_s_l05SameInts (k : Nat) : ∀ n : Nat, V0_s_l05SameInts k n = l0_s_l05SameInts k n
  | 0 => (by funext a0 a1 v1; rfl)
  | n + 1 => by
    obtain h0 := e_s_l05SameInts k n
    exact (by funext a0 a1 v1; rw [t0_s_l05SameInts, h0] <;> rfl)
theorem u_s_l05SameInts (k : Nat) (a0 : List Int) (a1 : List Int) : runX (c_s_l05SameInts k) fin_s_l05SameInts k 111 [argV (.slice 3 (.int .i64)) a0, argV (.slice 3 (.int .i64)) a1] ms0 = g_s_l05SameInts k (V0_s_l05SameInts k k) a0 a1 := by kernel_rfl
theorem r_s_l05SameInts (k : Nat) (a0 : List Int) (a1 : List Int) : runX (c_s_l05SameInts k) fin_s_l05SameInts k 111 [argV (.slice 3 (.int .i64)) a0, argV (.slice 3 (.int .i64)) a1] ms0 = s_l05SameInts k a0 a1 := by rw [u_s_l05SameInts, show V0_s_l05SameInts k k = l0_s_l05SameInts k k from (e_s_l05SameInts k k)] <;> rfl
noncomputable def sp_s_l05SameInts (k : Nat) : Spec := .imm (.slice 3 (.int .i64)) fun (a0 : List Int) => .imm (.slice 3 (.int .i64)) fun (a1 : List Int) => .body (s_l05SameInts k a0 a1) (outV [.bool] [])
noncomputable def c_s_l09Same (k : Nat) : Cfg := { eqs := [], tab := [(3, (.int .i64)), (9, .str), (22, (.slice 3 (.int .i64))), (24, yEvent)], spec := [(111, sp_s_l05SameInts k)], mspec := [], inl := [(202, Try.f202)], keep := [], join := [], hold := [], ptrs := [], maps := [], fuel := k }
noncomputable def fin_s_l09Same : VV → Ms → Option Bool := finV [.bool] []
theorem r_s_l09Same (k : Nat) (a0 : TEvent) (a1 : TEvent) : runX (c_s_l09Same k) fin_s_l09Same k 202 [argV yEvent a0, argV yEvent a1] ms0 = s_l09Same k a0 a1 := by kernel_rfl
noncomputable def sp_s_l09Same (k : Nat) : Spec := .imm yEvent fun (a0 : TEvent) => .imm yEvent fun (a1 : TEvent) => .body (s_l09Same k a0 a1) (outV [.bool] [])
noncomputable def c_s_l13Blank (k : Nat) : Cfg := { eqs := [], tab := [(24, yEvent)], spec := [(202, sp_s_l09Same k)], mspec := [], inl := [(237, Try.f237)], keep := [], join := [], hold := [], ptrs := [], maps := [], fuel := k }
noncomputable def fin_s_l13Blank : VV → Ms → Option Bool := finV [.bool] []
theorem r_s_l13Blank (k : Nat) (a0 : TEvent) : runX (c_s_l13Blank k) fin_s_l13Blank k 237 [argV yEvent a0] ms0 = s_l13Blank k a0 := by kernel_rfl
noncomputable def sp_s_l13Blank (k : Nat) : Spec := .imm yEvent fun (a0 : TEvent) => .body (s_l13Blank k a0) (outV [.bool] [])
noncomputable def c_s_CommandOk (k : Nat) : Cfg := { eqs := [], tab := [(3, (.int .i64)), (22, (.slice 3 (.int .i64))), (24, yEvent), (26, yCommand)], spec := [(29, sp_s_EventOk k), (127, sp_s_l09Body k), (128, sp_s_l01In k), (237, sp_s_l13Blank k)], mspec := [], inl := [(191, Try.f191)], keep := [], join := [], hold := [], ptrs := [], maps := [], fuel := k }
noncomputable def fin_s_CommandOk : VV → Ms → Option Bool := finV [.bool] []
theorem r_s_CommandOk (k : Nat) (a0 : TCommand) : runX (c_s_CommandOk k) fin_s_CommandOk k 191 [argV yCommand a0] ms0 = s_CommandOk k a0 := by kernel_rfl
noncomputable def sp_s_CommandOk (k : Nat) : Spec := .imm yCommand fun (a0 : TCommand) => .body (s_CommandOk k a0) (outV [.bool] [])
noncomputable def c_s_CommandText (k : Nat) : Cfg := { eqs := [], tab := [(3, (.int .i64)), (24, yEvent), (26, yCommand)], spec := [(132, sp_s_EventText k), (138, sp_s_l01Var k), (191, sp_s_CommandOk k), (192, sp_s_l09Byte k), (193, sp_s_l09BodyText k), (194, sp_s_l05Short k)], mspec := [], inl := [(101, Try.f101)], keep := [], join := [], hold := [], ptrs := [], maps := [], fuel := k }
noncomputable def fin_s_CommandText : VV → Ms → Option (ByteArray × Bool) := finV [.str, .bool] []
theorem r_s_CommandText (k : Nat) (a0 : TCommand) : runX (c_s_CommandText k) fin_s_CommandText k 101 [argV yCommand a0] ms0 = s_CommandText k a0 := by kernel_rfl
noncomputable def sp_s_CommandText (k : Nat) : Spec := .imm yCommand fun (a0 : TCommand) => .body (s_CommandText k a0) (outV [.str, .bool] [])
noncomputable def c_s_ReadCommand (k : Nat) : Cfg := { eqs := [], tab := [(3, (.int .i64)), (4, .bool), (9, .str), (22, (.slice 3 (.int .i64))), (24, yEvent), (26, yCommand), (132, yL05Cur)], spec := [(33, sp_s_ReadEvent k), (101, sp_s_CommandText k)], mspec := [(97, sp_s_l09One k), (98, sp_s_l05Var k), (100, sp_s_l05ReadShort k)], inl := [(15, Try.f15), (99, Try.f99)], keep := [(9900002006, [0, 1, 4, 5])], join := [], hold := [(9900002006, [(1, [0, 8], 3, (.int .i64), false, false)])], ptrs := [], maps := [], fuel := k }
noncomputable def fin_s_ReadCommand : VV → Ms → Option (TCommand × Bool) := finV [yCommand, .bool] [true, true]
noncomputable def V0_s_ReadCommand (k n : Nat) (r8 : Int × TL05Cur × Unit) (v1 : Int) (v2 : ByteArray) (v3 : Int) (v4 : Bool) (r1 : Int × TL05Cur × Unit) (r2 : Int × TL05Cur × Unit) (r3 : Int × TL05Cur × Unit) (r4 : Int × TL05Cur × Unit) (r5 : Int × TL05Cur × Unit) (r6 : Int × TL05Cur × Unit) (r7 : Int × TL05Cur × Unit) (xs5 : List Int) (a0 : ByteArray) : Option (TCommand × Bool) := lpN (c_s_ReadCommand k) fin_s_ReadCommand n true 9900002006 (cd [1, 1, 1, 1, 1, 0, 1, 0, 0] (bo Try.f99)) [.b 0, .s (cd [1, 1, 1, 1, 1, 1] (bo Try.f99)), .fn Try.f99, .op (rg (cd [1, 1, 1, 1, 1, 0, 1, 0, 1, 0] (bo Try.f15))) ((rg (cd [1, 1, 1, 1, 1, 0, 1, 0, 1, 0] (bo Try.f15))).drop 3) 3 (some 26), .b 0, .s (cd [1, 1, 1, 1, 1, 1] (bo Try.f15)), .fn Try.f15] ⟨⟨(mkT 60 0 [(0, one (.ptr 9000000 0)), (1, one (.ptr 9000001 3)), (4, one (.int .i64 r8.1)), (5, one (.int .i64 v1))]), [(9000000, .box [.str v2, .int .i64 v3, .bool v4]), (9000001, .box [.int .i64 r1.1, .int .i64 r2.1, .int .i64 r3.1, .int .i64 0, .int .i64 r4.1, .int .i64 r5.1, .int .i64 r6.1, .int .i64 r7.1, .row 9000003 none none, .str ByteArray.empty, .nilS, .int .i64 0, .int .i64 0, .int .i64 0]), (9000002, .box [.int .i64 0, .int .i64 0, .int .i64 0, .int .i64 0, .int .i64 0, .int .i64 0, .int .i64 0, .int .i64 0, .nilS, .str ByteArray.empty, .nilS, .int .i64 0, .int .i64 0, .int .i64 0]), (9000003, .row 3 (.int .i64) xs5 true)]⟩, 9900002000, 2, [(1500001000, (mkT 64 0 [(0, one (.str a0)), (2, one (.ptr 9000002 0)), (3, one (.bool false)), (4, one (.ptr 9000000 0)), (5, one (.ptr 9000001 0)), (8, one (.str a0)), (9, .v ⟨true, [.str a0, .int .i64 0, .bool false]⟩), (10, one (.ptr 9000000 0)), (11, one (.ptr 9000000 0)), (12, one (.int .i64 r1.1)), (13, .v ⟨true, [.int .i64 r1.1, .int .i64 0, .int .i64 0, .int .i64 0, .int .i64 0, .int .i64 0, .int .i64 0, .int .i64 0, .nilS, .str ByteArray.empty, .nilS, .int .i64 0, .int .i64 0, .int .i64 0]⟩), (14, one (.ptr 9000000 0)), (15, one (.int .i64 r2.1)), (16, one (.ptr 9000001 1)), (17, one (.ptr 9000000 0)), (18, one (.int .i64 r3.1)), (19, one (.ptr 9000001 2)), (20, one (.ptr 9000001 0)), (21, one (.int .i64 r1.1)), (22, one (.bool true)), (23, one (.bool (r1.1 == 2))), (24, one (.ptr 9000000 0)), (25, one (.ptr 9000001 3))])), (0, (mkT 0 0 []))]⟩
theorem t0_s_ReadCommand (k n : Nat) (r8 : Int × TL05Cur × Unit) (v1 : Int) (v2 : ByteArray) (v3 : Int) (v4 : Bool) (r1 : Int × TL05Cur × Unit) (r2 : Int × TL05Cur × Unit) (r3 : Int × TL05Cur × Unit) (r4 : Int × TL05Cur × Unit) (r5 : Int × TL05Cur × Unit) (r6 : Int × TL05Cur × Unit) (r7 : Int × TL05Cur × Unit) (xs5 : List Int) (a0 : ByteArray) : V0_s_ReadCommand k (n + 1) r8 v1 v2 v3 v4 r1 r2 r3 r4 r5 r6 r7 xs5 a0 = b0_s_ReadCommand k (V0_s_ReadCommand k n) r8 v1 v2 v3 v4 r1 r2 r3 r4 r5 r6 r7 xs5 a0 := by kernel_rfl
theorem e_s_ReadCommand (k : Nat) : ∀ n : Nat, V0_s_ReadCommand k n = l0_s_ReadCommand k n
  | 0 => (by funext r8 v1 v2 v3 v4 r1 r2 r3 r4 r5 r6 r7 xs5 a0; rfl)
  | n + 1 => by
    obtain h0 := e_s_ReadCommand k n
    exact (by funext r8 v1 v2 v3 v4 r1 r2 r3 r4 r5 r6 r7 xs5 a0; rw [t0_s_ReadCommand, h0] <;> rfl)
theorem u_s_ReadCommand (k : Nat) (a0 : ByteArray) : runX (c_s_ReadCommand k) fin_s_ReadCommand k 15 [argV .str a0] ms0 = g_s_ReadCommand k (V0_s_ReadCommand k k) a0 := by kernel_rfl
theorem r_s_ReadCommand (k : Nat) (a0 : ByteArray) : runX (c_s_ReadCommand k) fin_s_ReadCommand k 15 [argV .str a0] ms0 = s_ReadCommand k a0 := by rw [u_s_ReadCommand, show V0_s_ReadCommand k k = l0_s_ReadCommand k k from (e_s_ReadCommand k k)] <;> rfl
noncomputable def sp_s_ReadCommand (k : Nat) : Spec := .imm .str fun (a0 : ByteArray) => .body (s_ReadCommand k a0) (outV [yCommand, .bool] [true, true])
noncomputable def c_i_within (k : Nat) : Cfg := { eqs := [], tab := [], spec := [], mspec := [], inl := [(129, Try.f129)], keep := [], join := [], hold := [], ptrs := [], maps := [], fuel := k }
noncomputable def fin_i_within : VV → Ms → Option Bool := finV [.bool] []
theorem r_i_within (k : Nat) (a0 : Int) (a1 : Int) (a2 : Int) : runX (c_i_within k) fin_i_within k 129 [argV (.int .i64) a0, argV (.int .i64) a1, argV (.int .i64) a2] ms0 = i_within k a0 a1 a2 := by kernel_rfl
noncomputable def sp_i_within (k : Nat) : Spec := .imm (.int .i64) fun (a0 : Int) => .imm (.int .i64) fun (a1 : Int) => .imm (.int .i64) fun (a2 : Int) => .body (i_within k a0 a1 a2) (outV [.bool] [])
noncomputable def c_i_levelsOk (k : Nat) : Cfg := { eqs := [], tab := [(3, (.int .i64)), (22, (.slice 3 (.int .i64))), (24, yEvent)], spec := [(129, sp_i_within k)], mspec := [], inl := [(130, Try.f130)], keep := [(13000001004, [1, 13, 14, 15])], join := [], hold := [], ptrs := [], maps := [], fuel := k }
noncomputable def fin_i_levelsOk : VV → Ms → Option Bool := finV [.bool] []
noncomputable def V0_i_levelsOk (k n : Nat) (a0 : TEvent) (v1 : Int) : Option Bool := lpN (c_i_levelsOk k) fin_i_levelsOk n true 13000001004 (cd [1, 1, 0, 1, 0, 0] (bo Try.f130)) [.b 0, .s (cd [1, 1, 1] (bo Try.f130)), .fn Try.f130] ⟨⟨(mkT 27 0 [(1, one (.ptr 9000000 0)), (13, one (.slc 3 (.int .i64) a0.2.2.2.2.2.1)), (14, one (.int .i64 (a0.2.2.2.2.2.1.length : Int))), (15, one (.int .i64 v1))]), [(9000000, .box [.int .i64 a0.1, .int .i64 a0.2.1, .int .i64 a0.2.2.1, .int .i64 a0.2.2.2.1, .int .i64 a0.2.2.2.2.1, .slc 3 (.int .i64) a0.2.2.2.2.2.1, .str a0.2.2.2.2.2.2.1, .slc 3 (.int .i64) a0.2.2.2.2.2.2.2.1, .int .i64 a0.2.2.2.2.2.2.2.2.1])]⟩, 13000001000, 1, [(0, (mkT 0 0 []))]⟩
theorem t0_i_levelsOk (k n : Nat) (a0 : TEvent) (v1 : Int) : V0_i_levelsOk k (n + 1) a0 v1 = b0_i_levelsOk k (V0_i_levelsOk k n) a0 v1 := by kernel_rfl
theorem e_i_levelsOk (k : Nat) : ∀ n : Nat, V0_i_levelsOk k n = l0_i_levelsOk k n
  | 0 => (by funext a0 v1; rfl)
  | n + 1 => by
    obtain h0 := e_i_levelsOk k n
    exact (by funext a0 v1; rw [t0_i_levelsOk, h0] <;> rfl)
theorem u_i_levelsOk (k : Nat) (a0 : TEvent) : runX (c_i_levelsOk k) fin_i_levelsOk k 130 [argV yEvent a0] ms0 = g_i_levelsOk k (V0_i_levelsOk k k) a0 := by kernel_rfl
theorem r_i_levelsOk (k : Nat) (a0 : TEvent) : runX (c_i_levelsOk k) fin_i_levelsOk k 130 [argV yEvent a0] ms0 = i_levelsOk k a0 := by rw [u_i_levelsOk, show V0_i_levelsOk k k = l0_i_levelsOk k k from (e_i_levelsOk k k)] <;> rfl
noncomputable def sp_i_levelsOk (k : Nat) : Spec := .imm yEvent fun (a0 : TEvent) => .body (i_levelsOk k a0) (outV [.bool] [])
noncomputable def c_i_prevOk (k : Nat) : Cfg := { eqs := [], tab := [(3, (.int .i64)), (4, .bool), (22, (.slice 3 (.int .i64))), (24, yEvent)], spec := [(129, sp_i_within k)], mspec := [], inl := [(131, Try.f131)], keep := [(13100001002, [1, 6, 7, 8])], join := [], hold := [], ptrs := [], maps := [], fuel := k }
noncomputable def fin_i_prevOk : VV → Ms → Option Bool := finV [.bool] []
noncomputable def V0_i_prevOk (k n : Nat) (a0 : TEvent) (v1 : Int) : Option Bool := lpN (c_i_prevOk k) fin_i_prevOk n true 13100001002 (cd [1, 0, 1, 0, 0] (bo Try.f131)) [.b 0, .s (cd [1, 1] (bo Try.f131)), .fn Try.f131] ⟨⟨(mkT 51 0 [(1, one (.ptr 9000000 0)), (6, one (.slc 3 (.int .i64) a0.2.2.2.2.2.2.2.1)), (7, one (.int .i64 (a0.2.2.2.2.2.2.2.1.length : Int))), (8, one (.int .i64 v1))]), [(9000000, .box [.int .i64 a0.1, .int .i64 a0.2.1, .int .i64 a0.2.2.1, .int .i64 a0.2.2.2.1, .int .i64 a0.2.2.2.2.1, .slc 3 (.int .i64) a0.2.2.2.2.2.1, .str a0.2.2.2.2.2.2.1, .slc 3 (.int .i64) a0.2.2.2.2.2.2.2.1, .int .i64 a0.2.2.2.2.2.2.2.2.1])]⟩, 13100001000, 1, [(0, (mkT 0 0 []))]⟩
theorem t0_i_prevOk (k n : Nat) (a0 : TEvent) (v1 : Int) : V0_i_prevOk k (n + 1) a0 v1 = b0_i_prevOk k (V0_i_prevOk k n) a0 v1 := by kernel_rfl
theorem e_i_prevOk (k : Nat) : ∀ n : Nat, V0_i_prevOk k n = l0_i_prevOk k n
  | 0 => (by funext a0 v1; rfl)
  | n + 1 => by
    obtain h0 := e_i_prevOk k n
    exact (by funext a0 v1; rw [t0_i_prevOk, h0] <;> rfl)
theorem u_i_prevOk (k : Nat) (a0 : TEvent) : runX (c_i_prevOk k) fin_i_prevOk k 131 [argV yEvent a0] ms0 = g_i_prevOk k (V0_i_prevOk k k) a0 := by kernel_rfl
theorem r_i_prevOk (k : Nat) (a0 : TEvent) : runX (c_i_prevOk k) fin_i_prevOk k 131 [argV yEvent a0] ms0 = i_prevOk k a0 := by rw [u_i_prevOk, show V0_i_prevOk k k = l0_i_prevOk k k from (e_i_prevOk k k)] <;> rfl
noncomputable def sp_i_prevOk (k : Nat) : Spec := .imm yEvent fun (a0 : TEvent) => .body (i_prevOk k a0) (outV [.bool] [])
noncomputable def c_i_EventOk (k : Nat) : Cfg := { eqs := [], tab := [(3, (.int .i64)), (9, .str), (24, yEvent)], spec := [(129, sp_i_within k), (130, sp_i_levelsOk k), (131, sp_i_prevOk k)], mspec := [], inl := [(30, Try.f30)], keep := [], join := [], hold := [], ptrs := [], maps := [], fuel := k }
noncomputable def fin_i_EventOk : VV → Ms → Option Bool := finV [.bool] []
theorem r_i_EventOk (k : Nat) (a0 : TEvent) : runX (c_i_EventOk k) fin_i_EventOk k 30 [argV yEvent a0] ms0 = i_EventOk k a0 := by kernel_rfl
noncomputable def sp_i_EventOk (k : Nat) : Spec := .imm yEvent fun (a0 : TEvent) => .body (i_EventOk k a0) (outV [.bool] [])
noncomputable def c_i_VarText (k : Nat) : Cfg := { eqs := [], tab := [(3, (.int .i64)), (5, (.int .u8)), (9, .str), (53, (.slice 5 (.int .u8)))], spec := [(129, sp_i_within k)], mspec := [], inl := [(122, Try.f122)], keep := [(12200001004, [0, 4])], join := [], hold := [(12200001004, [(4, [0], 5, (.int .u8), false, false)])], ptrs := [], maps := [], fuel := k }
noncomputable def fin_i_VarText : VV → Ms → Option (ByteArray × Bool) := finV [.str, .bool] []
noncomputable def V0_i_VarText (k n : Nat) (a0 : Int) (xs1 : List Int) : Option (ByteArray × Bool) := lpN (c_i_VarText k) fin_i_VarText n true 12200001004 (cd [1, 1, 1, 0, 0, 0] (bo Try.f122)) [.b 0, .s (cd [1, 1, 1, 1] (bo Try.f122)), .fn Try.f122] ⟨⟨(mkT 25 0 [(0, one (.int .i64 a0)), (4, one (.row 9000000 none none))]), [(9000000, .row 5 (.int .u8) xs1 true)]⟩, 12200001000, 1, [(0, (mkT 0 0 []))]⟩
theorem t0_i_VarText (k n : Nat) (a0 : Int) (xs1 : List Int) : V0_i_VarText k (n + 1) a0 xs1 = b0_i_VarText k (V0_i_VarText k n) a0 xs1 := by kernel_rfl
theorem e_i_VarText (k : Nat) : ∀ n : Nat, V0_i_VarText k n = l0_i_VarText k n
  | 0 => (by funext a0 xs1; rfl)
  | n + 1 => by
    obtain h0 := e_i_VarText k n
    exact (by funext a0 xs1; rw [t0_i_VarText, h0] <;> rfl)
theorem u_i_VarText (k : Nat) (a0 : Int) : runX (c_i_VarText k) fin_i_VarText k 122 [argV (.int .i64) a0] ms0 = g_i_VarText k (V0_i_VarText k k) a0 := by kernel_rfl
theorem r_i_VarText (k : Nat) (a0 : Int) : runX (c_i_VarText k) fin_i_VarText k 122 [argV (.int .i64) a0] ms0 = i_VarText k a0 := by rw [u_i_VarText, show V0_i_VarText k k = l0_i_VarText k k from (e_i_VarText k k)] <;> rfl
noncomputable def sp_i_VarText (k : Nat) : Spec := .imm (.int .i64) fun (a0 : Int) => .body (i_VarText k a0) (outV [.str, .bool] [])
noncomputable def c_i_ReadVar (k : Nat) : Cfg := { eqs := [], tab := [(3, (.int .i64)), (5, (.int .u8)), (9, .str)], spec := [(122, sp_i_VarText k), (129, sp_i_within k)], mspec := [], inl := [(195, Try.f195)], keep := [(19500001005, [0, 1, 7, 8])], join := [], hold := [], ptrs := [], maps := [], fuel := k }
noncomputable def fin_i_ReadVar : VV → Ms → Option (Int × Int × Bool) := finV [(.int .i64), (.int .i64), .bool] []
noncomputable def V0_i_ReadVar (k n : Nat) (a0 : ByteArray) (a1 : Int) (v1 : Int) (v2 : Int) : Option (Int × Int × Bool) := lpN (c_i_ReadVar k) fin_i_ReadVar n true 19500001005 (cd [1, 1, 1, 0, 1, 0, 0] (bo Try.f195)) [.b 0, .s (cd [1, 1, 1, 1] (bo Try.f195)), .fn Try.f195] ⟨⟨(mkT 63 0 [(0, one (.str a0)), (1, one (.int .i64 a1)), (7, one (.int .i64 v1)), (8, one (.int .i64 v2))]), []⟩, 19500001000, 1, [(0, (mkT 0 0 []))]⟩
theorem t0_i_ReadVar (k n : Nat) (a0 : ByteArray) (a1 : Int) (v1 : Int) (v2 : Int) : V0_i_ReadVar k (n + 1) a0 a1 v1 v2 = b0_i_ReadVar k (V0_i_ReadVar k n) a0 a1 v1 v2 := by kernel_rfl
theorem e_i_ReadVar (k : Nat) : ∀ n : Nat, V0_i_ReadVar k n = l0_i_ReadVar k n
  | 0 => (by funext a0 a1 v1 v2; rfl)
  | n + 1 => by
    obtain h0 := e_i_ReadVar k n
    exact (by funext a0 a1 v1 v2; rw [t0_i_ReadVar, h0] <;> rfl)
theorem u_i_ReadVar (k : Nat) (a0 : ByteArray) (a1 : Int) : runX (c_i_ReadVar k) fin_i_ReadVar k 195 [argV .str a0, argV (.int .i64) a1] ms0 = g_i_ReadVar k (V0_i_ReadVar k k) a0 a1 := by kernel_rfl
theorem r_i_ReadVar (k : Nat) (a0 : ByteArray) (a1 : Int) : runX (c_i_ReadVar k) fin_i_ReadVar k 195 [argV .str a0, argV (.int .i64) a1] ms0 = i_ReadVar k a0 a1 := by rw [u_i_ReadVar, show V0_i_ReadVar k k = l0_i_ReadVar k k from (e_i_ReadVar k k)] <;> rfl
noncomputable def sp_i_ReadVar (k : Nat) : Spec := .imm .str fun (a0 : ByteArray) => .imm (.int .i64) fun (a1 : Int) => .body (i_ReadVar k a0 a1) (outV [(.int .i64), (.int .i64), .bool] [])
noncomputable def c_i_reader_num (k : Nat) : Cfg := { eqs := [], tab := [(3, (.int .i64)), (4, .bool), (9, .str), (140, yL05Cur)], spec := [(195, sp_i_ReadVar k)], mspec := [], inl := [(103, Try.f103)], keep := [], join := [], hold := [], ptrs := [], maps := [], fuel := k }
noncomputable def fin_i_reader_num : VV → Ms → Option (Int × TL05Cur × Unit) := finM [(.int .i64)] [] [.box yL05Cur]
theorem r_i_reader_num (k : Nat) (a0 : TL05Cur) : runX (c_i_reader_num k) fin_i_reader_num k 103 (pArgsV 1 [.box yL05Cur] (a0, ())) (ms1 [.box yL05Cur] (a0, ())) = i_reader_num k a0 := by kernel_rfl
noncomputable def sp_i_reader_num (k : Nat) : MSpec := .box yL05Cur fun (a0 : TL05Cur) => .body (i_reader_num k a0) (fun r => outV [(.int .i64)] [] r.1) (fun r => poV [.box yL05Cur] r.2)
noncomputable def c_i_reader_byte (k : Nat) : Cfg := { eqs := [], tab := [(3, (.int .i64)), (4, .bool), (5, (.int .u8)), (9, .str), (140, yL05Cur)], spec := [], mspec := [], inl := [(102, Try.f102)], keep := [], join := [], hold := [], ptrs := [], maps := [], fuel := k }
noncomputable def fin_i_reader_byte : VV → Ms → Option (Int × TL05Cur × Unit) := finM [(.int .i64)] [] [.box yL05Cur]
theorem r_i_reader_byte (k : Nat) (a0 : TL05Cur) : runX (c_i_reader_byte k) fin_i_reader_byte k 102 (pArgsV 1 [.box yL05Cur] (a0, ())) (ms1 [.box yL05Cur] (a0, ())) = i_reader_byte k a0 := by kernel_rfl
noncomputable def sp_i_reader_byte (k : Nat) : MSpec := .box yL05Cur fun (a0 : TL05Cur) => .body (i_reader_byte k a0) (fun r => outV [(.int .i64)] [] r.1) (fun r => poV [.box yL05Cur] r.2)
noncomputable def c_i_ReadShort (k : Nat) : Cfg := { eqs := [], tab := [(9, .str)], spec := [(195, sp_i_ReadVar k)], mspec := [], inl := [(197, Try.f197)], keep := [], join := [], hold := [], ptrs := [], maps := [], fuel := k }
noncomputable def fin_i_ReadShort : VV → Ms → Option (ByteArray × Int × Bool) := finV [.str, (.int .i64), .bool] []
theorem r_i_ReadShort (k : Nat) (a0 : ByteArray) (a1 : Int) : runX (c_i_ReadShort k) fin_i_ReadShort k 197 [argV .str a0, argV (.int .i64) a1] ms0 = i_ReadShort k a0 a1 := by kernel_rfl
noncomputable def sp_i_ReadShort (k : Nat) : Spec := .imm .str fun (a0 : ByteArray) => .imm (.int .i64) fun (a1 : Int) => .body (i_ReadShort k a0 a1) (outV [.str, (.int .i64), .bool] [])
noncomputable def c_i_reader_text (k : Nat) : Cfg := { eqs := [], tab := [(3, (.int .i64)), (4, .bool), (9, .str), (140, yL05Cur)], spec := [(197, sp_i_ReadShort k)], mspec := [], inl := [(105, Try.f105)], keep := [], join := [], hold := [], ptrs := [], maps := [], fuel := k }
noncomputable def fin_i_reader_text : VV → Ms → Option (ByteArray × TL05Cur × Unit) := finM [.str] [] [.box yL05Cur]
theorem r_i_reader_text (k : Nat) (a0 : TL05Cur) : runX (c_i_reader_text k) fin_i_reader_text k 105 (pArgsV 1 [.box yL05Cur] (a0, ())) (ms1 [.box yL05Cur] (a0, ())) = i_reader_text k a0 := by kernel_rfl
noncomputable def sp_i_reader_text (k : Nat) : MSpec := .box yL05Cur fun (a0 : TL05Cur) => .body (i_reader_text k a0) (fun r => outV [.str] [] r.1) (fun r => poV [.box yL05Cur] r.2)
noncomputable def c_i_reader_main (k : Nat) : Cfg := { eqs := [], tab := [(4, .bool), (9, .str), (22, (.slice 3 (.int .i64))), (24, yEvent), (140, yL05Cur)], spec := [], mspec := [(102, sp_i_reader_byte k), (103, sp_i_reader_num k), (105, sp_i_reader_text k)], inl := [(104, Try.f104), (125, Try.f125), (196, Try.f196)], keep := [(12500002002, [0, 1, 4, 5])], join := [], hold := [], ptrs := [138], maps := [], fuel := k }
noncomputable def fin_i_reader_main : VV → Ms → Option (TEvent × TL05Cur × Unit) := finM [yEvent] [true, true] [.box yL05Cur]
noncomputable def V1_i_reader_main (k n : Nat) (r5 : Int × TL05Cur × Unit) (v1 : Int) (v2 : ByteArray) (v3 : Int) (v4 : Bool) (r1 : Int × TL05Cur × Unit) (r2 : Int × TL05Cur × Unit) (r3 : Int × TL05Cur × Unit) (r4 : Int × TL05Cur × Unit) (xs5 : List Int) : Option (TEvent × TL05Cur × Unit) := lpN (c_i_reader_main k) fin_i_reader_main n true 12500002002 (cd [1, 1, 0, 0] (bo Try.f125)) [.b 0, .fn Try.f125, .op (rg (cd [1, 1, 0] (bo Try.f104))) ((rg (cd [1, 1, 0] (bo Try.f104))).drop 3) 3 (some 15), .s (cd [1, 1, 1] (bo Try.f104)), .fn Try.f104] ⟨⟨(mkT 22 0 [(0, one (.ptr 9000000 0)), (1, one (.fn 196 [9000001, 9000002])), (4, one (.int .i64 r5.1)), (5, one (.int .i64 v1))]), [(9000000, .box [.str v2, .int .i64 v3, .bool v4]), (9000001, .box [.int .i64 0, .int .i64 r1.1, .int .i64 r2.1, .int .i64 r3.1, .int .i64 r4.1, .row 9000004 none none, .str ByteArray.empty, .nilS, .int .i64 0]), (9000002, .box [.ptr 9000000 0]), (9000003, .box [.int .i64 0, .int .i64 0, .int .i64 0, .int .i64 0, .int .i64 0, .nilS, .str ByteArray.empty, .nilS, .int .i64 0]), (9000004, .row 3 (.int .i64) xs5 true)]⟩, 12500002000, 2, [(10400001000, (mkT 20 0 [(0, one (.ptr 9000000 0)), (1, one (.ptr 9000002 0)), (2, one (.ptr 9000003 0)), (3, one (.ptr 9000001 0)), (4, one (.ptr 9000000 0)), (5, one (.int .i64 r1.1)), (6, one (.ptr 9000000 0)), (7, one (.int .i64 r2.1)), (8, one (.ptr 9000000 0)), (9, one (.int .i64 r3.1)), (10, one (.ptr 9000000 0)), (11, one (.int .i64 r4.1)), (12, .v ⟨true, [.int .i64 0, .int .i64 r1.1, .int .i64 r2.1, .int .i64 r3.1, .int .i64 r4.1, .nilS, .str ByteArray.empty, .nilS, .int .i64 0]⟩), (13, one (.ptr 9000000 0)), (14, one (.fn 196 [9000001, 9000002]))])), (0, (mkT 1 0 [(0, one (.ptr 9000000 0))]))]⟩
noncomputable def V0_i_reader_main (k n : Nat) (r5 : Int × TL05Cur × Unit) (r1 : Int × TL05Cur × Unit) (r2 : Int × TL05Cur × Unit) (r3 : Int × TL05Cur × Unit) (r4 : Int × TL05Cur × Unit) : Option (TEvent × TL05Cur × Unit) := lpN (c_i_reader_main k) fin_i_reader_main n true 12500002002 (cd [1, 1, 0, 0] (bo Try.f125)) [.b 0, .fn Try.f125, .op (rg (cd [1, 1, 0] (bo Try.f104))) ((rg (cd [1, 1, 0] (bo Try.f104))).drop 3) 3 (some 15), .s (cd [1, 1, 1] (bo Try.f104)), .fn Try.f104] ⟨⟨(mkT 22 0 [(0, one (.ptr 9000000 0)), (1, one (.fn 196 [9000001, 9000002])), (4, one (.int .i64 r5.1)), (5, one (.int .i64 0))]), [(9000000, .box [.str r5.2.1.1, .int .i64 r5.2.1.2.1, .bool r5.2.1.2.2.1]), (9000001, .box [.int .i64 0, .int .i64 r1.1, .int .i64 r2.1, .int .i64 r3.1, .int .i64 r4.1, .nilS, .str ByteArray.empty, .nilS, .int .i64 0]), (9000002, .box [.ptr 9000000 0]), (9000003, .box [.int .i64 0, .int .i64 0, .int .i64 0, .int .i64 0, .int .i64 0, .nilS, .str ByteArray.empty, .nilS, .int .i64 0])]⟩, 12500002000, 2, [(10400001000, (mkT 20 0 [(0, one (.ptr 9000000 0)), (1, one (.ptr 9000002 0)), (2, one (.ptr 9000003 0)), (3, one (.ptr 9000001 0)), (4, one (.ptr 9000000 0)), (5, one (.int .i64 r1.1)), (6, one (.ptr 9000000 0)), (7, one (.int .i64 r2.1)), (8, one (.ptr 9000000 0)), (9, one (.int .i64 r3.1)), (10, one (.ptr 9000000 0)), (11, one (.int .i64 r4.1)), (12, .v ⟨true, [.int .i64 0, .int .i64 r1.1, .int .i64 r2.1, .int .i64 r3.1, .int .i64 r4.1, .nilS, .str ByteArray.empty, .nilS, .int .i64 0]⟩), (13, one (.ptr 9000000 0)), (14, one (.fn 196 [9000001, 9000002]))])), (0, (mkT 1 0 [(0, one (.ptr 9000000 0))]))]⟩
theorem t1_i_reader_main (k n : Nat) (r5 : Int × TL05Cur × Unit) (v1 : Int) (v2 : ByteArray) (v3 : Int) (v4 : Bool) (r1 : Int × TL05Cur × Unit) (r2 : Int × TL05Cur × Unit) (r3 : Int × TL05Cur × Unit) (r4 : Int × TL05Cur × Unit) (xs5 : List Int) : V1_i_reader_main k (n + 1) r5 v1 v2 v3 v4 r1 r2 r3 r4 xs5 = b1_i_reader_main k (V1_i_reader_main k n) r5 v1 v2 v3 v4 r1 r2 r3 r4 xs5 := by kernel_rfl
theorem t0_i_reader_main (k n : Nat) (r5 : Int × TL05Cur × Unit) (r1 : Int × TL05Cur × Unit) (r2 : Int × TL05Cur × Unit) (r3 : Int × TL05Cur × Unit) (r4 : Int × TL05Cur × Unit) : V0_i_reader_main k (n + 1) r5 r1 r2 r3 r4 = b0_i_reader_main k (V1_i_reader_main k n) r5 r1 r2 r3 r4 := by kernel_rfl
theorem e_i_reader_main (k : Nat) : ∀ n : Nat, V1_i_reader_main k n = l1_i_reader_main k n ∧ V0_i_reader_main k n = l0_i_reader_main k n
  | 0 => ⟨(by funext r5 v1 v2 v3 v4 r1 r2 r3 r4 xs5; rfl), (by funext r5 r1 r2 r3 r4; rfl)⟩
  | n + 1 => by
    obtain ⟨h1, h0⟩ := e_i_reader_main k n
    exact ⟨(by funext r5 v1 v2 v3 v4 r1 r2 r3 r4 xs5; rw [t1_i_reader_main, h1] <;> rfl), (by funext r5 r1 r2 r3 r4; rw [t0_i_reader_main, h1] <;> rfl)⟩
theorem u_i_reader_main (k : Nat) (a0 : TL05Cur) : runX (c_i_reader_main k) fin_i_reader_main k 104 (pArgsV 1 [.box yL05Cur] (a0, ())) (ms1 [.box yL05Cur] (a0, ())) = g_i_reader_main k (V0_i_reader_main k k) a0 := by kernel_rfl
theorem r_i_reader_main (k : Nat) (a0 : TL05Cur) : runX (c_i_reader_main k) fin_i_reader_main k 104 (pArgsV 1 [.box yL05Cur] (a0, ())) (ms1 [.box yL05Cur] (a0, ())) = i_reader_main k a0 := by rw [u_i_reader_main, show V0_i_reader_main k k = l0_i_reader_main k k from (e_i_reader_main k k).2] <;> rfl
noncomputable def sp_i_reader_main (k : Nat) : MSpec := .box yL05Cur fun (a0 : TL05Cur) => .body (i_reader_main k a0) (fun r => outV [yEvent] [true, true] r.1) (fun r => poV [.box yL05Cur] r.2)
noncomputable def c_i_reader_done (k : Nat) : Cfg := { eqs := [], tab := [(3, (.int .i64)), (4, .bool), (9, .str), (140, yL05Cur)], spec := [], mspec := [], inl := [(106, Try.f106)], keep := [], join := [], hold := [], ptrs := [], maps := [], fuel := k }
noncomputable def fin_i_reader_done : VV → Ms → Option (Bool × TL05Cur × Unit) := finM [.bool] [] [.box yL05Cur]
theorem r_i_reader_done (k : Nat) (a0 : TL05Cur) : runX (c_i_reader_done k) fin_i_reader_done k 106 (pArgsV 1 [.box yL05Cur] (a0, ())) (ms1 [.box yL05Cur] (a0, ())) = i_reader_done k a0 := by kernel_rfl
noncomputable def sp_i_reader_done (k : Nat) : MSpec := .box yL05Cur fun (a0 : TL05Cur) => .body (i_reader_done k a0) (fun r => outV [.bool] [] r.1) (fun r => poV [.box yL05Cur] r.2)
noncomputable def c_i_ReadEvent (k : Nat) : Cfg := { eqs := [], tab := [(3, (.int .i64)), (4, .bool), (22, (.slice 3 (.int .i64))), (24, yEvent), (140, yL05Cur)], spec := [(30, sp_i_EventOk k)], mspec := [(103, sp_i_reader_num k), (104, sp_i_reader_main k), (106, sp_i_reader_done k)], inl := [(28, Try.f28), (125, Try.f125), (126, Try.f126)], keep := [(12500002002, [0, 1, 4, 5])], join := [], hold := [], ptrs := [138], maps := [], fuel := k }
noncomputable def fin_i_ReadEvent : VV → Ms → Option (TEvent × Bool) := finV [yEvent, .bool] [true, true]
noncomputable def V1_i_ReadEvent (k n : Nat) (r3 : Int × TL05Cur × Unit) (v1 : Int) (v2 : ByteArray) (v3 : Int) (v4 : Bool) (r1 : Int × TL05Cur × Unit) (r2 : TEvent × TL05Cur × Unit) (xs5 : List Int) (a0 : ByteArray) : Option (TEvent × Bool) := lpN (c_i_ReadEvent k) fin_i_ReadEvent n true 12500002002 (cd [1, 1, 0, 0] (bo Try.f125)) [.b 0, .fn Try.f125, .op (rg (cd [1, 1, 1, 1, 1, 0] (bo Try.f28))) ((rg (cd [1, 1, 1, 1, 1, 0] (bo Try.f28))).drop 3) 3 (some 18), .s (cd [1, 1, 1, 1, 1, 1] (bo Try.f28)), .fn Try.f28] ⟨⟨(mkT 22 0 [(0, one (.ptr 9000000 0)), (1, one (.fn 126 [9000001, 9000002])), (4, one (.int .i64 r3.1)), (5, one (.int .i64 v1))]), [(9000000, .box [.str v2, .int .i64 v3, .bool v4]), (9000001, .box [.int .i64 r1.1, .int .i64 r2.1.2.1, .int .i64 r2.1.2.2.1, .int .i64 r2.1.2.2.2.1, .int .i64 r2.1.2.2.2.2.1, .row 9000004 none none, .str r2.1.2.2.2.2.2.2.1, .row 9000006 none none, .int .i64 r2.1.2.2.2.2.2.2.2.2.1]), (9000002, .box [.ptr 9000000 0]), (9000003, .box [.int .i64 0, .int .i64 0, .int .i64 0, .int .i64 0, .int .i64 0, .nilS, .str ByteArray.empty, .nilS, .int .i64 0]), (9000004, .row 3 (.int .i64) r2.1.2.2.2.2.2.1 true), (9000005, .dead), (9000006, .row 3 (.int .i64) xs5 true)]⟩, 12500002000, 2, [(2800001000, (mkT 32 0 [(0, one (.str a0)), (2, one (.ptr 9000003 0)), (3, one (.bool false)), (4, one (.ptr 9000002 0)), (5, one (.int .i64 r1.1)), (6, one (.ptr 9000001 0)), (7, one (.str a0)), (8, .v ⟨true, [.str a0, .int .i64 0, .bool false]⟩), (9, one (.ptr 9000000 0)), (10, one (.ptr 9000000 0)), (11, one (.int .i64 r1.1)), (12, one (.ptr 9000000 0)), (13, .v ⟨true, [.int .i64 r2.1.1, .int .i64 r2.1.2.1, .int .i64 r2.1.2.2.1, .int .i64 r2.1.2.2.2.1, .int .i64 r2.1.2.2.2.2.1, .row 9000004 none none, .str r2.1.2.2.2.2.2.2.1, .row 9000005 none none, .int .i64 r2.1.2.2.2.2.2.2.2.2.1]⟩), (14, one (.int .i64 r1.1)), (15, one (.ptr 9000001 0)), (16, one (.ptr 9000000 0)), (17, one (.fn 126 [9000001, 9000002]))])), (0, (mkT 0 0 []))]⟩
noncomputable def V0_i_ReadEvent (k n : Nat) (r3 : Int × TL05Cur × Unit) (r1 : Int × TL05Cur × Unit) (r2 : TEvent × TL05Cur × Unit) (a0 : ByteArray) : Option (TEvent × Bool) := lpN (c_i_ReadEvent k) fin_i_ReadEvent n true 12500002002 (cd [1, 1, 0, 0] (bo Try.f125)) [.b 0, .fn Try.f125, .op (rg (cd [1, 1, 1, 1, 1, 0] (bo Try.f28))) ((rg (cd [1, 1, 1, 1, 1, 0] (bo Try.f28))).drop 3) 3 (some 18), .s (cd [1, 1, 1, 1, 1, 1] (bo Try.f28)), .fn Try.f28] ⟨⟨(mkT 22 0 [(0, one (.ptr 9000000 0)), (1, one (.fn 126 [9000001, 9000002])), (4, one (.int .i64 r3.1)), (5, one (.int .i64 0))]), [(9000000, .box [.str r3.2.1.1, .int .i64 r3.2.1.2.1, .bool r3.2.1.2.2.1]), (9000001, .box [.int .i64 r1.1, .int .i64 r2.1.2.1, .int .i64 r2.1.2.2.1, .int .i64 r2.1.2.2.2.1, .int .i64 r2.1.2.2.2.2.1, .row 9000004 none none, .str r2.1.2.2.2.2.2.2.1, .row 9000005 none none, .int .i64 r2.1.2.2.2.2.2.2.2.2.1]), (9000002, .box [.ptr 9000000 0]), (9000003, .box [.int .i64 0, .int .i64 0, .int .i64 0, .int .i64 0, .int .i64 0, .nilS, .str ByteArray.empty, .nilS, .int .i64 0]), (9000004, .row 3 (.int .i64) r2.1.2.2.2.2.2.1 true), (9000005, .row 3 (.int .i64) r2.1.2.2.2.2.2.2.2.1 true)]⟩, 12500002000, 2, [(2800001000, (mkT 32 0 [(0, one (.str a0)), (2, one (.ptr 9000003 0)), (3, one (.bool false)), (4, one (.ptr 9000002 0)), (5, one (.int .i64 r1.1)), (6, one (.ptr 9000001 0)), (7, one (.str a0)), (8, .v ⟨true, [.str a0, .int .i64 0, .bool false]⟩), (9, one (.ptr 9000000 0)), (10, one (.ptr 9000000 0)), (11, one (.int .i64 r1.1)), (12, one (.ptr 9000000 0)), (13, .v ⟨true, [.int .i64 r2.1.1, .int .i64 r2.1.2.1, .int .i64 r2.1.2.2.1, .int .i64 r2.1.2.2.2.1, .int .i64 r2.1.2.2.2.2.1, .row 9000004 none none, .str r2.1.2.2.2.2.2.2.1, .row 9000005 none none, .int .i64 r2.1.2.2.2.2.2.2.2.2.1]⟩), (14, one (.int .i64 r1.1)), (15, one (.ptr 9000001 0)), (16, one (.ptr 9000000 0)), (17, one (.fn 126 [9000001, 9000002]))])), (0, (mkT 0 0 []))]⟩
theorem t1_i_ReadEvent (k n : Nat) (r3 : Int × TL05Cur × Unit) (v1 : Int) (v2 : ByteArray) (v3 : Int) (v4 : Bool) (r1 : Int × TL05Cur × Unit) (r2 : TEvent × TL05Cur × Unit) (xs5 : List Int) (a0 : ByteArray) : V1_i_ReadEvent k (n + 1) r3 v1 v2 v3 v4 r1 r2 xs5 a0 = b1_i_ReadEvent k (V1_i_ReadEvent k n) r3 v1 v2 v3 v4 r1 r2 xs5 a0 := by kernel_rfl
theorem t0_i_ReadEvent (k n : Nat) (r3 : Int × TL05Cur × Unit) (r1 : Int × TL05Cur × Unit) (r2 : TEvent × TL05Cur × Unit) (a0 : ByteArray) : V0_i_ReadEvent k (n + 1) r3 r1 r2 a0 = b0_i_ReadEvent k (V1_i_ReadEvent k n) r3 r1 r2 a0 := by kernel_rfl
theorem e_i_ReadEvent (k : Nat) : ∀ n : Nat, V1_i_ReadEvent k n = l1_i_ReadEvent k n ∧ V0_i_ReadEvent k n = l0_i_ReadEvent k n
  | 0 => ⟨(by funext r3 v1 v2 v3 v4 r1 r2 xs5 a0; rfl), (by funext r3 r1 r2 a0; rfl)⟩
  | n + 1 => by
    obtain ⟨h1, h0⟩ := e_i_ReadEvent k n
    exact ⟨(by funext r3 v1 v2 v3 v4 r1 r2 xs5 a0; rw [t1_i_ReadEvent, h1] <;> rfl), (by funext r3 r1 r2 a0; rw [t0_i_ReadEvent, h1] <;> rfl)⟩
theorem u_i_ReadEvent (k : Nat) (a0 : ByteArray) : runX (c_i_ReadEvent k) fin_i_ReadEvent k 28 [argV .str a0] ms0 = g_i_ReadEvent k (V0_i_ReadEvent k k) a0 := by kernel_rfl
theorem r_i_ReadEvent (k : Nat) (a0 : ByteArray) : runX (c_i_ReadEvent k) fin_i_ReadEvent k 28 [argV .str a0] ms0 = i_ReadEvent k a0 := by rw [u_i_ReadEvent, show V0_i_ReadEvent k k = l0_i_ReadEvent k k from (e_i_ReadEvent k k).2] <;> rfl
noncomputable def sp_i_ReadEvent (k : Nat) : Spec := .imm .str fun (a0 : ByteArray) => .body (i_ReadEvent k a0) (outV [yEvent, .bool] [true, true])
noncomputable def c_slices_Equal_int_int (k : Nat) : Cfg := { eqs := [], tab := [(3, (.int .i64)), (22, (.slice 3 (.int .i64)))], spec := [], mspec := [], inl := [(211, Try.f211)], keep := [(21100001004, [0, 1, 12, 13])], join := [], hold := [], ptrs := [], maps := [], fuel := k }
noncomputable def fin_slices_Equal_int_int : VV → Ms → Option Bool := finV [.bool] []
noncomputable def V0_slices_Equal_int_int (k n : Nat) (a0 : List Int) (a1 : List Int) (v1 : Int) : Option Bool := lpN (c_slices_Equal_int_int k) fin_slices_Equal_int_int n true 21100001004 (cd [1, 1, 0, 1, 0, 0] (bo Try.f211)) [.b 0, .s (cd [1, 1, 1] (bo Try.f211)), .fn Try.f211] ⟨⟨(mkT 26 0 [(0, one (.slc 3 (.int .i64) a0)), (1, one (.slc 3 (.int .i64) a1)), (12, one (.int .i64 (a0.length : Int))), (13, one (.int .i64 v1))]), []⟩, 21100001000, 1, [(0, (mkT 0 0 []))]⟩
theorem t0_slices_Equal_int_int (k n : Nat) (a0 : List Int) (a1 : List Int) (v1 : Int) : V0_slices_Equal_int_int k (n + 1) a0 a1 v1 = b0_slices_Equal_int_int k (V0_slices_Equal_int_int k n) a0 a1 v1 := by kernel_rfl
theorem e_slices_Equal_int_int (k : Nat) : ∀ n : Nat, V0_slices_Equal_int_int k n = l0_slices_Equal_int_int k n
  | 0 => (by funext a0 a1 v1; rfl)
  | n + 1 => by
    obtain h0 := e_slices_Equal_int_int k n
    exact (by funext a0 a1 v1; rw [t0_slices_Equal_int_int, h0] <;> rfl)
theorem u_slices_Equal_int_int (k : Nat) (a0 : List Int) (a1 : List Int) : runX (c_slices_Equal_int_int k) fin_slices_Equal_int_int k 211 [argV (.slice 3 (.int .i64)) a0, argV (.slice 3 (.int .i64)) a1] ms0 = g_slices_Equal_int_int k (V0_slices_Equal_int_int k k) a0 a1 := by kernel_rfl
theorem r_slices_Equal_int_int (k : Nat) (a0 : List Int) (a1 : List Int) : runX (c_slices_Equal_int_int k) fin_slices_Equal_int_int k 211 [argV (.slice 3 (.int .i64)) a0, argV (.slice 3 (.int .i64)) a1] ms0 = slices_Equal_int_int k a0 a1 := by rw [u_slices_Equal_int_int, show V0_slices_Equal_int_int k k = l0_slices_Equal_int_int k k from (e_slices_Equal_int_int k k)] <;> rfl
noncomputable def sp_slices_Equal_int_int (k : Nat) : Spec := .imm (.slice 3 (.int .i64)) fun (a0 : List Int) => .imm (.slice 3 (.int .i64)) fun (a1 : List Int) => .body (slices_Equal_int_int k a0 a1) (outV [.bool] [])
noncomputable def c_i_sameEvent (k : Nat) : Cfg := { eqs := [], tab := [(3, (.int .i64)), (9, .str), (22, (.slice 3 (.int .i64))), (24, yEvent)], spec := [(211, sp_slices_Equal_int_int k)], mspec := [], inl := [(198, Try.f198)], keep := [], join := [], hold := [], ptrs := [], maps := [], fuel := k }
noncomputable def fin_i_sameEvent : VV → Ms → Option Bool := finV [.bool] []
theorem r_i_sameEvent (k : Nat) (a0 : TEvent) (a1 : TEvent) : runX (c_i_sameEvent k) fin_i_sameEvent k 198 [argV yEvent a0, argV yEvent a1] ms0 = i_sameEvent k a0 a1 := by kernel_rfl
noncomputable def sp_i_sameEvent (k : Nat) : Spec := .imm yEvent fun (a0 : TEvent) => .imm yEvent fun (a1 : TEvent) => .body (i_sameEvent k a0 a1) (outV [.bool] [])
noncomputable def c_i_sentOk (k : Nat) : Cfg := { eqs := [], tab := [(3, (.int .i64)), (22, (.slice 3 (.int .i64))), (24, yEvent)], spec := [(30, sp_i_EventOk k)], mspec := [], inl := [(199, Try.f199)], keep := [], join := [], hold := [], ptrs := [], maps := [], fuel := k }
noncomputable def fin_i_sentOk : VV → Ms → Option Bool := finV [.bool] []
theorem r_i_sentOk (k : Nat) (a0 : TEvent) : runX (c_i_sentOk k) fin_i_sentOk k 199 [argV yEvent a0] ms0 = i_sentOk k a0 := by kernel_rfl
noncomputable def sp_i_sentOk (k : Nat) : Spec := .imm yEvent fun (a0 : TEvent) => .body (i_sentOk k a0) (outV [.bool] [])
noncomputable def c_i_CommandOk (k : Nat) : Cfg := { eqs := [], tab := [(3, (.int .i64)), (24, yEvent), (26, yCommand)], spec := [(30, sp_i_EventOk k), (129, sp_i_within k), (198, sp_i_sameEvent k), (199, sp_i_sentOk k)], mspec := [], inl := [(107, Try.f107)], keep := [], join := [], hold := [], ptrs := [], maps := [], fuel := k }
noncomputable def fin_i_CommandOk : VV → Ms → Option Bool := finV [.bool] []
theorem r_i_CommandOk (k : Nat) (a0 : TCommand) : runX (c_i_CommandOk k) fin_i_CommandOk k 107 [argV yCommand a0] ms0 = i_CommandOk k a0 := by kernel_rfl
noncomputable def sp_i_CommandOk (k : Nat) : Spec := .imm yCommand fun (a0 : TCommand) => .body (i_CommandOk k a0) (outV [.bool] [])
noncomputable def c_i_ReadCommand (k : Nat) : Cfg := { eqs := [], tab := [(3, (.int .i64)), (4, .bool), (24, yEvent), (26, yCommand), (140, yL05Cur)], spec := [(28, sp_i_ReadEvent k), (107, sp_i_CommandOk k)], mspec := [(102, sp_i_reader_byte k), (103, sp_i_reader_num k), (104, sp_i_reader_main k), (105, sp_i_reader_text k), (106, sp_i_reader_done k)], inl := [(16, Try.f16)], keep := [], join := [], hold := [], ptrs := [], maps := [], fuel := k }
noncomputable def fin_i_ReadCommand : VV → Ms → Option (TCommand × Bool) := finV [yCommand, .bool] [true, true]
theorem r_i_ReadCommand (k : Nat) (a0 : ByteArray) : runX (c_i_ReadCommand k) fin_i_ReadCommand k 16 [argV .str a0] ms0 = i_ReadCommand k a0 := by kernel_rfl
noncomputable def sp_i_ReadCommand (k : Nat) : Spec := .imm .str fun (a0 : ByteArray) => .body (i_ReadCommand k a0) (outV [yCommand, .bool] [true, true])
noncomputable def c_l_eqIntS (k : Nat) : Cfg := { eqs := [], tab := [(3, (.int .i64)), (22, (.slice 3 (.int .i64)))], spec := [], mspec := [], inl := [(57, Try.f57)], keep := [(5700001004, [0, 1, 5])], join := [], hold := [], ptrs := [], maps := [], fuel := k }
noncomputable def fin_l_eqIntS : VV → Ms → Option Bool := finV [.bool] []
noncomputable def V0_l_eqIntS (k n : Nat) (a0 : List Int) (a1 : List Int) (v1 : Int) : Option Bool := lpN (c_l_eqIntS k) fin_l_eqIntS n true 5700001004 (cd [1, 1, 0, 1, 0, 0] (bo Try.f57)) [.b 0, .s (cd [1, 1, 1] (bo Try.f57)), .fn Try.f57] ⟨⟨(mkT 26 0 [(0, one (.slc 3 (.int .i64) a0)), (1, one (.slc 3 (.int .i64) a1)), (5, one (.int .i64 v1))]), []⟩, 5700001000, 1, [(0, (mkT 0 0 []))]⟩
theorem t0_l_eqIntS (k n : Nat) (a0 : List Int) (a1 : List Int) (v1 : Int) : V0_l_eqIntS k (n + 1) a0 a1 v1 = b0_l_eqIntS k (V0_l_eqIntS k n) a0 a1 v1 := by kernel_rfl
theorem e_l_eqIntS (k : Nat) : ∀ n : Nat, V0_l_eqIntS k n = l0_l_eqIntS k n
  | 0 => (by funext a0 a1 v1; rfl)
  | n + 1 => by
    obtain h0 := e_l_eqIntS k n
    exact (by funext a0 a1 v1; rw [t0_l_eqIntS, h0] <;> rfl)
theorem u_l_eqIntS (k : Nat) (a0 : List Int) (a1 : List Int) : runX (c_l_eqIntS k) fin_l_eqIntS k 57 [argV (.slice 3 (.int .i64)) a0, argV (.slice 3 (.int .i64)) a1] ms0 = g_l_eqIntS k (V0_l_eqIntS k k) a0 a1 := by kernel_rfl
theorem r_l_eqIntS (k : Nat) (a0 : List Int) (a1 : List Int) : runX (c_l_eqIntS k) fin_l_eqIntS k 57 [argV (.slice 3 (.int .i64)) a0, argV (.slice 3 (.int .i64)) a1] ms0 = l_eqIntS k a0 a1 := by rw [u_l_eqIntS, show V0_l_eqIntS k k = l0_l_eqIntS k k from (e_l_eqIntS k k)] <;> rfl
noncomputable def sp_l_eqIntS (k : Nat) : Spec := .imm (.slice 3 (.int .i64)) fun (a0 : List Int) => .imm (.slice 3 (.int .i64)) fun (a1 : List Int) => .body (l_eqIntS k a0 a1) (outV [.bool] [])
noncomputable def c_l_eqEvent (k : Nat) : Cfg := { eqs := [], tab := [(3, (.int .i64)), (9, .str), (22, (.slice 3 (.int .i64))), (24, yEvent)], spec := [(57, sp_l_eqIntS k)], mspec := [], inl := [(69, Try.f69)], keep := [], join := [], hold := [], ptrs := [], maps := [], fuel := k }
noncomputable def fin_l_eqEvent : VV → Ms → Option Bool := finV [.bool] []
theorem r_l_eqEvent (k : Nat) (a0 : TEvent) (a1 : TEvent) : runX (c_l_eqEvent k) fin_l_eqEvent k 69 [argV yEvent a0, argV yEvent a1] ms0 = l_eqEvent k a0 a1 := by kernel_rfl
noncomputable def sp_l_eqEvent (k : Nat) : Spec := .imm yEvent fun (a0 : TEvent) => .imm yEvent fun (a1 : TEvent) => .body (l_eqEvent k a0 a1) (outV [.bool] [])
noncomputable def c_l_eqCommand (k : Nat) : Cfg := { eqs := [], tab := [(3, (.int .i64)), (24, yEvent), (26, yCommand)], spec := [(69, sp_l_eqEvent k)], mspec := [], inl := [(17, Try.f17)], keep := [], join := [], hold := [], ptrs := [], maps := [], fuel := k }
noncomputable def fin_l_eqCommand : VV → Ms → Option Bool := finV [.bool] []
theorem r_l_eqCommand (k : Nat) (a0 : TCommand) (a1 : TCommand) : runX (c_l_eqCommand k) fin_l_eqCommand k 17 [argV yCommand a0, argV yCommand a1] ms0 = l_eqCommand k a0 a1 := by kernel_rfl
noncomputable def sp_l_eqCommand (k : Nat) : Spec := .imm yCommand fun (a0 : TCommand) => .imm yCommand fun (a1 : TCommand) => .body (l_eqCommand k a0 a1) (outV [.bool] [])
noncomputable def c_l_heldIntS (k : Nat) : Cfg := { eqs := [], tab := [(3, (.int .i64)), (22, (.slice 3 (.int .i64)))], spec := [], mspec := [], inl := [(59, Try.f59)], keep := [(5900001002, [0, 1, 5])], join := [], hold := [], ptrs := [], maps := [], fuel := k }
noncomputable def fin_l_heldIntS : VV → Ms → Option Int := finV [(.int .i64)] []
noncomputable def V0_l_heldIntS (k n : Nat) (a0 : List Int) (a1 : Int) (v1 : Int) : Option Int := lpN (c_l_heldIntS k) fin_l_heldIntS n true 5900001002 (cd [1, 0, 1, 0, 0] (bo Try.f59)) [.b 0, .s (cd [1, 1] (bo Try.f59)), .fn Try.f59] ⟨⟨(mkT 21 0 [(0, one (.slc 3 (.int .i64) a0)), (1, one (.int .i64 a1)), (5, one (.int .i64 v1))]), []⟩, 5900001000, 1, [(0, (mkT 0 0 []))]⟩
theorem t0_l_heldIntS (k n : Nat) (a0 : List Int) (a1 : Int) (v1 : Int) : V0_l_heldIntS k (n + 1) a0 a1 v1 = b0_l_heldIntS k (V0_l_heldIntS k n) a0 a1 v1 := by kernel_rfl
theorem e_l_heldIntS (k : Nat) : ∀ n : Nat, V0_l_heldIntS k n = l0_l_heldIntS k n
  | 0 => (by funext a0 a1 v1; rfl)
  | n + 1 => by
    obtain h0 := e_l_heldIntS k n
    exact (by funext a0 a1 v1; rw [t0_l_heldIntS, h0] <;> rfl)
theorem u_l_heldIntS (k : Nat) (a0 : List Int) (a1 : Int) : runX (c_l_heldIntS k) fin_l_heldIntS k 59 [argV (.slice 3 (.int .i64)) a0, argV (.int .i64) a1] ms0 = g_l_heldIntS k (V0_l_heldIntS k k) a0 a1 := by kernel_rfl
theorem r_l_heldIntS (k : Nat) (a0 : List Int) (a1 : Int) : runX (c_l_heldIntS k) fin_l_heldIntS k 59 [argV (.slice 3 (.int .i64)) a0, argV (.int .i64) a1] ms0 = l_heldIntS k a0 a1 := by rw [u_l_heldIntS, show V0_l_heldIntS k k = l0_l_heldIntS k k from (e_l_heldIntS k k)] <;> rfl
noncomputable def sp_l_heldIntS (k : Nat) : Spec := .imm (.slice 3 (.int .i64)) fun (a0 : List Int) => .imm (.int .i64) fun (a1 : Int) => .body (l_heldIntS k a0 a1) (outV [(.int .i64)] [])
noncomputable def c_l_heldEvent (k : Nat) : Cfg := { eqs := [], tab := [(22, (.slice 3 (.int .i64))), (24, yEvent)], spec := [(59, sp_l_heldIntS k)], mspec := [], inl := [(80, Try.f80)], keep := [], join := [], hold := [], ptrs := [], maps := [], fuel := k }
noncomputable def fin_l_heldEvent : VV → Ms → Option Int := finV [(.int .i64)] []
theorem r_l_heldEvent (k : Nat) (a0 : TEvent) (a1 : Int) : runX (c_l_heldEvent k) fin_l_heldEvent k 80 [argV yEvent a0, argV (.int .i64) a1] ms0 = l_heldEvent k a0 a1 := by kernel_rfl
noncomputable def sp_l_heldEvent (k : Nat) : Spec := .imm yEvent fun (a0 : TEvent) => .imm (.int .i64) fun (a1 : Int) => .body (l_heldEvent k a0 a1) (outV [(.int .i64)] [])
noncomputable def c_l_heldCommand (k : Nat) : Cfg := { eqs := [], tab := [(24, yEvent), (26, yCommand)], spec := [(80, sp_l_heldEvent k)], mspec := [], inl := [(19, Try.f19)], keep := [], join := [], hold := [], ptrs := [], maps := [], fuel := k }
noncomputable def fin_l_heldCommand : VV → Ms → Option Int := finV [(.int .i64)] []
theorem r_l_heldCommand (k : Nat) (a0 : TCommand) (a1 : Int) : runX (c_l_heldCommand k) fin_l_heldCommand k 19 [argV yCommand a0, argV (.int .i64) a1] ms0 = l_heldCommand k a0 a1 := by kernel_rfl
noncomputable def sp_l_heldCommand (k : Nat) : Spec := .imm yCommand fun (a0 : TCommand) => .imm (.int .i64) fun (a1 : Int) => .body (l_heldCommand k a0 a1) (outV [(.int .i64)] [])
noncomputable def c_l_markIntS (k : Nat) : Cfg := { eqs := [], tab := [(3, (.int .i64)), (22, (.slice 3 (.int .i64)))], spec := [], mspec := [], inl := [(58, Try.f58)], keep := [(5800001002, [0, 1, 5])], join := [], hold := [], ptrs := [], maps := [], fuel := k }
noncomputable def fin_l_markIntS : VV → Ms → Option (Int × List Int × Unit) := finM [(.int .i64)] [] [.row 3 (.int .i64), .imm (.int .i64)]
noncomputable def V0_l_markIntS (k n : Nat) (a1 : Int) (v1 : Int) (a0 : List Int) : Option (Int × List Int × Unit) := lpN (c_l_markIntS k) fin_l_markIntS n true 5800001002 (cd [1, 0, 1, 0, 0] (bo Try.f58)) [.b 0, .s (cd [1, 1] (bo Try.f58)), .fn Try.f58] ⟨⟨(mkT 19 0 [(0, one (.row 9000000 none none)), (1, one (.int .i64 a1)), (5, one (.int .i64 v1))]), [(9000000, .row 3 (.int .i64) a0 true)]⟩, 5800001000, 1, [(0, (mkT 2 0 [(0, one (.row 9000000 none none))]))]⟩
theorem t0_l_markIntS (k n : Nat) (a1 : Int) (v1 : Int) (a0 : List Int) : V0_l_markIntS k (n + 1) a1 v1 a0 = b0_l_markIntS k (V0_l_markIntS k n) a1 v1 a0 := by kernel_rfl
theorem e_l_markIntS (k : Nat) : ∀ n : Nat, V0_l_markIntS k n = l0_l_markIntS k n
  | 0 => (by funext a1 v1 a0; rfl)
  | n + 1 => by
    obtain h0 := e_l_markIntS k n
    exact (by funext a1 v1 a0; rw [t0_l_markIntS, h0] <;> rfl)
theorem u_l_markIntS (k : Nat) (a0 : List Int) (a1 : Int) : runX (c_l_markIntS k) fin_l_markIntS k 58 (pArgsV 1 [.row 3 (.int .i64), .imm (.int .i64)] (a0, a1, ())) (ms1 [.row 3 (.int .i64), .imm (.int .i64)] (a0, a1, ())) = g_l_markIntS k (V0_l_markIntS k k) a0 a1 := by kernel_rfl
theorem r_l_markIntS (k : Nat) (a0 : List Int) (a1 : Int) : runX (c_l_markIntS k) fin_l_markIntS k 58 (pArgsV 1 [.row 3 (.int .i64), .imm (.int .i64)] (a0, a1, ())) (ms1 [.row 3 (.int .i64), .imm (.int .i64)] (a0, a1, ())) = l_markIntS k a0 a1 := by rw [u_l_markIntS, show V0_l_markIntS k k = l0_l_markIntS k k from (e_l_markIntS k k)] <;> rfl
noncomputable def sp_l_markIntS (k : Nat) : MSpec := .row 3 (.int .i64) fun (a0 : List Int) => .imm (.int .i64) fun (a1 : Int) => .body (l_markIntS k a0 a1) (fun r => outV [(.int .i64)] [] r.1) (fun r => poV [.row 3 (.int .i64), .imm (.int .i64)] r.2)
noncomputable def c_l_FnExactReadCommand (k : Nat) : Cfg := { eqs := [], tab := [(4, .bool), (9, .str), (22, (.slice 3 (.int .i64))), (24, yEvent), (26, yCommand)], spec := [(15, sp_s_ReadCommand k), (16, sp_i_ReadCommand k), (17, sp_l_eqCommand k), (19, sp_l_heldCommand k)], mspec := [(58, sp_l_markIntS k)], inl := [(3, Try.f3), (18, Try.f18), (71, Try.f71)], keep := [], join := [], hold := [], ptrs := [], maps := [], fuel := k }
noncomputable def fin_l_FnExactReadCommand : VV → Ms → Option Bool := finV [.bool] []
theorem r_l_FnExactReadCommand (k : Nat) (a0 : ByteArray) : runX (c_l_FnExactReadCommand k) fin_l_FnExactReadCommand k 3 [argV .str a0] ms0 = l_FnExactReadCommand k a0 := by kernel_rfl
noncomputable def sp_l_FnExactReadCommand (k : Nat) : Spec := .imm .str fun (a0 : ByteArray) => .body (l_FnExactReadCommand k a0) (outV [.bool] [])
noncomputable def c_l_szItemS (k : Nat) : Cfg := { eqs := [], tab := [(88, (.slice 179 yItem))], spec := [], mspec := [], inl := [(61, Try.f61)], keep := [], join := [], hold := [], ptrs := [], maps := [], fuel := k }
noncomputable def fin_l_szItemS : VV → Ms → Option Int := finV [(.int .i64)] []
theorem r_l_szItemS (k : Nat) (a0 : List TItem) (a1 : Int) : runX (c_l_szItemS k) fin_l_szItemS k 61 [argV (.slice 179 yItem) a0, argV (.int .i64) a1] ms0 = l_szItemS k a0 a1 := by kernel_rfl
noncomputable def sp_l_szItemS (k : Nat) : Spec := .imm (.slice 179 yItem) fun (a0 : List TItem) => .imm (.int .i64) fun (a1 : Int) => .body (l_szItemS k a0 a1) (outV [(.int .i64)] [])
noncomputable def c_l_szItemSS (k : Nat) : Cfg := { eqs := [], tab := [(34, (.slice 88 (.slice 179 yItem))), (88, (.slice 179 yItem))], spec := [(61, sp_l_szItemS k)], mspec := [], inl := [(46, Try.f46)], keep := [(4600001005, [0, 1, 5])], join := [], hold := [], ptrs := [], maps := [], fuel := k }
noncomputable def fin_l_szItemSS : VV → Ms → Option Int := finV [(.int .i64)] []
noncomputable def V0_l_szItemSS (k n : Nat) (a0 : List (List TItem)) (v1 : Int) (v2 : Int) : Option Int := lpN (c_l_szItemSS k) fin_l_szItemSS n true 4600001005 (cd [1, 1, 1, 0, 1, 0, 0] (bo Try.f46)) [.b 0, .s (cd [1, 1, 1, 1] (bo Try.f46)), .fn Try.f46] ⟨⟨(mkT 27 0 [(0, one (.slc 88 (.slice 179 yItem) a0)), (1, one (.int .i64 v1)), (5, one (.int .i64 v2))]), []⟩, 4600001000, 1, [(0, (mkT 0 0 []))]⟩
theorem t0_l_szItemSS (k n : Nat) (a0 : List (List TItem)) (v1 : Int) (v2 : Int) : V0_l_szItemSS k (n + 1) a0 v1 v2 = b0_l_szItemSS k (V0_l_szItemSS k n) a0 v1 v2 := by kernel_rfl
theorem e_l_szItemSS (k : Nat) : ∀ n : Nat, V0_l_szItemSS k n = l0_l_szItemSS k n
  | 0 => (by funext a0 v1 v2; rfl)
  | n + 1 => by
    obtain h0 := e_l_szItemSS k n
    exact (by funext a0 v1 v2; rw [t0_l_szItemSS, h0] <;> rfl)
theorem u_l_szItemSS (k : Nat) (a0 : List (List TItem)) (a1 : Int) : runX (c_l_szItemSS k) fin_l_szItemSS k 46 [argV (.slice 88 (.slice 179 yItem)) a0, argV (.int .i64) a1] ms0 = g_l_szItemSS k (V0_l_szItemSS k k) a0 a1 := by kernel_rfl
theorem r_l_szItemSS (k : Nat) (a0 : List (List TItem)) (a1 : Int) : runX (c_l_szItemSS k) fin_l_szItemSS k 46 [argV (.slice 88 (.slice 179 yItem)) a0, argV (.int .i64) a1] ms0 = l_szItemSS k a0 a1 := by rw [u_l_szItemSS, show V0_l_szItemSS k k = l0_l_szItemSS k k from (e_l_szItemSS k k)] <;> rfl
noncomputable def sp_l_szItemSS (k : Nat) : Spec := .imm (.slice 88 (.slice 179 yItem)) fun (a0 : List (List TItem)) => .imm (.int .i64) fun (a1 : Int) => .body (l_szItemSS k a0 a1) (outV [(.int .i64)] [])
noncomputable def c_l_szIntS (k : Nat) : Cfg := { eqs := [], tab := [(22, (.slice 3 (.int .i64)))], spec := [], mspec := [], inl := [(149, Try.f149)], keep := [], join := [], hold := [], ptrs := [], maps := [], fuel := k }
noncomputable def fin_l_szIntS : VV → Ms → Option Int := finV [(.int .i64)] []
theorem r_l_szIntS (k : Nat) (a0 : List Int) (a1 : Int) : runX (c_l_szIntS k) fin_l_szIntS k 149 [argV (.slice 3 (.int .i64)) a0, argV (.int .i64) a1] ms0 = l_szIntS k a0 a1 := by kernel_rfl
noncomputable def sp_l_szIntS (k : Nat) : Spec := .imm (.slice 3 (.int .i64)) fun (a0 : List Int) => .imm (.int .i64) fun (a1 : Int) => .body (l_szIntS k a0 a1) (outV [(.int .i64)] [])
noncomputable def c_l_szEvent (k : Nat) : Cfg := { eqs := [], tab := [(9, .str), (22, (.slice 3 (.int .i64))), (89, yEvent)], spec := [(149, sp_l_szIntS k)], mspec := [], inl := [(62, Try.f62)], keep := [], join := [], hold := [], ptrs := [], maps := [], fuel := k }
noncomputable def fin_l_szEvent : VV → Ms → Option Int := finV [(.int .i64)] []
theorem r_l_szEvent (k : Nat) (a0 : TEvent) (a1 : Int) : runX (c_l_szEvent k) fin_l_szEvent k 62 [argV yEvent a0, argV (.int .i64) a1] ms0 = l_szEvent k a0 a1 := by kernel_rfl
noncomputable def sp_l_szEvent (k : Nat) : Spec := .imm yEvent fun (a0 : TEvent) => .imm (.int .i64) fun (a1 : Int) => .body (l_szEvent k a0 a1) (outV [(.int .i64)] [])
noncomputable def c_l_szEventS (k : Nat) : Cfg := { eqs := [], tab := [(33, (.slice 89 yEvent)), (89, yEvent)], spec := [(62, sp_l_szEvent k)], mspec := [], inl := [(60, Try.f60)], keep := [(6000001005, [0, 1, 5])], join := [], hold := [], ptrs := [], maps := [], fuel := k }
noncomputable def fin_l_szEventS : VV → Ms → Option Int := finV [(.int .i64)] []
noncomputable def V0_l_szEventS (k n : Nat) (a0 : List TEvent) (v1 : Int) (v2 : Int) : Option Int := lpN (c_l_szEventS k) fin_l_szEventS n true 6000001005 (cd [1, 1, 1, 0, 1, 0, 0] (bo Try.f60)) [.b 0, .s (cd [1, 1, 1, 1] (bo Try.f60)), .fn Try.f60] ⟨⟨(mkT 27 0 [(0, one (.slc 89 yEvent a0)), (1, one (.int .i64 v1)), (5, one (.int .i64 v2))]), []⟩, 6000001000, 1, [(0, (mkT 0 0 []))]⟩
theorem t0_l_szEventS (k n : Nat) (a0 : List TEvent) (v1 : Int) (v2 : Int) : V0_l_szEventS k (n + 1) a0 v1 v2 = b0_l_szEventS k (V0_l_szEventS k n) a0 v1 v2 := by kernel_rfl
theorem e_l_szEventS (k : Nat) : ∀ n : Nat, V0_l_szEventS k n = l0_l_szEventS k n
  | 0 => (by funext a0 v1 v2; rfl)
  | n + 1 => by
    obtain h0 := e_l_szEventS k n
    exact (by funext a0 v1 v2; rw [t0_l_szEventS, h0] <;> rfl)
theorem u_l_szEventS (k : Nat) (a0 : List TEvent) (a1 : Int) : runX (c_l_szEventS k) fin_l_szEventS k 60 [argV (.slice 89 yEvent) a0, argV (.int .i64) a1] ms0 = g_l_szEventS k (V0_l_szEventS k k) a0 a1 := by kernel_rfl
theorem r_l_szEventS (k : Nat) (a0 : List TEvent) (a1 : Int) : runX (c_l_szEventS k) fin_l_szEventS k 60 [argV (.slice 89 yEvent) a0, argV (.int .i64) a1] ms0 = l_szEventS k a0 a1 := by rw [u_l_szEventS, show V0_l_szEventS k k = l0_l_szEventS k k from (e_l_szEventS k k)] <;> rfl
noncomputable def sp_l_szEventS (k : Nat) : Spec := .imm (.slice 89 yEvent) fun (a0 : List TEvent) => .imm (.int .i64) fun (a1 : Int) => .body (l_szEventS k a0 a1) (outV [(.int .i64)] [])
noncomputable def c_l_szBoolS (k : Nat) : Cfg := { eqs := [], tab := [(35, (.slice 4 .bool))], spec := [], mspec := [], inl := [(158, Try.f158)], keep := [], join := [], hold := [], ptrs := [], maps := [], fuel := k }
noncomputable def fin_l_szBoolS : VV → Ms → Option Int := finV [(.int .i64)] []
theorem r_l_szBoolS (k : Nat) (a0 : List Bool) (a1 : Int) : runX (c_l_szBoolS k) fin_l_szBoolS k 158 [argV (.slice 4 .bool) a0, argV (.int .i64) a1] ms0 = l_szBoolS k a0 a1 := by kernel_rfl
noncomputable def sp_l_szBoolS (k : Nat) : Spec := .imm (.slice 4 .bool) fun (a0 : List Bool) => .imm (.int .i64) fun (a1 : Int) => .body (l_szBoolS k a0 a1) (outV [(.int .i64)] [])
noncomputable def c_l_szRoom (k : Nat) : Cfg := { eqs := [], tab := [(33, (.slice 89 yEvent)), (34, (.slice 88 (.slice 179 yItem))), (35, (.slice 4 .bool)), (37, yRoom)], spec := [(46, sp_l_szItemSS k), (60, sp_l_szEventS k), (158, sp_l_szBoolS k)], mspec := [], inl := [(72, Try.f72)], keep := [], join := [], hold := [], ptrs := [], maps := [], fuel := k }
noncomputable def fin_l_szRoom : VV → Ms → Option Int := finV [(.int .i64)] []
theorem r_l_szRoom (k : Nat) (a0 : TRoom) (a1 : Int) : runX (c_l_szRoom k) fin_l_szRoom k 72 [argV yRoom a0, argV (.int .i64) a1] ms0 = l_szRoom k a0 a1 := by kernel_rfl
noncomputable def sp_l_szRoom (k : Nat) : Spec := .imm yRoom fun (a0 : TRoom) => .imm (.int .i64) fun (a1 : Int) => .body (l_szRoom k a0 a1) (outV [(.int .i64)] [])
noncomputable def c_l_szSession (k : Nat) : Cfg := { eqs := [], tab := [(9, .str), (207, ySession)], spec := [], mspec := [], inl := [(200, Try.f200)], keep := [], join := [], hold := [], ptrs := [], maps := [], fuel := k }
noncomputable def fin_l_szSession : VV → Ms → Option Int := finV [(.int .i64)] []
theorem r_l_szSession (k : Nat) (a0 : TSession) (a1 : Int) : runX (c_l_szSession k) fin_l_szSession k 200 [argV ySession a0, argV (.int .i64) a1] ms0 = l_szSession k a0 a1 := by kernel_rfl
noncomputable def sp_l_szSession (k : Nat) : Spec := .imm ySession fun (a0 : TSession) => .imm (.int .i64) fun (a1 : Int) => .body (l_szSession k a0 a1) (outV [(.int .i64)] [])
noncomputable def c_l_szSessionS (k : Nat) : Cfg := { eqs := [], tab := [(32, (.slice 207 ySession)), (207, ySession)], spec := [(200, sp_l_szSession k)], mspec := [], inl := [(108, Try.f108)], keep := [(10800001005, [0, 1, 5])], join := [], hold := [], ptrs := [], maps := [], fuel := k }
noncomputable def fin_l_szSessionS : VV → Ms → Option Int := finV [(.int .i64)] []
noncomputable def V0_l_szSessionS (k n : Nat) (a0 : List TSession) (v1 : Int) (v2 : Int) : Option Int := lpN (c_l_szSessionS k) fin_l_szSessionS n true 10800001005 (cd [1, 1, 1, 0, 1, 0, 0] (bo Try.f108)) [.b 0, .s (cd [1, 1, 1, 1] (bo Try.f108)), .fn Try.f108] ⟨⟨(mkT 27 0 [(0, one (.slc 207 ySession a0)), (1, one (.int .i64 v1)), (5, one (.int .i64 v2))]), []⟩, 10800001000, 1, [(0, (mkT 0 0 []))]⟩
theorem t0_l_szSessionS (k n : Nat) (a0 : List TSession) (v1 : Int) (v2 : Int) : V0_l_szSessionS k (n + 1) a0 v1 v2 = b0_l_szSessionS k (V0_l_szSessionS k n) a0 v1 v2 := by kernel_rfl
theorem e_l_szSessionS (k : Nat) : ∀ n : Nat, V0_l_szSessionS k n = l0_l_szSessionS k n
  | 0 => (by funext a0 v1 v2; rfl)
  | n + 1 => by
    obtain h0 := e_l_szSessionS k n
    exact (by funext a0 v1 v2; rw [t0_l_szSessionS, h0] <;> rfl)
theorem u_l_szSessionS (k : Nat) (a0 : List TSession) (a1 : Int) : runX (c_l_szSessionS k) fin_l_szSessionS k 108 [argV (.slice 207 ySession) a0, argV (.int .i64) a1] ms0 = g_l_szSessionS k (V0_l_szSessionS k k) a0 a1 := by kernel_rfl
theorem r_l_szSessionS (k : Nat) (a0 : List TSession) (a1 : Int) : runX (c_l_szSessionS k) fin_l_szSessionS k 108 [argV (.slice 207 ySession) a0, argV (.int .i64) a1] ms0 = l_szSessionS k a0 a1 := by rw [u_l_szSessionS, show V0_l_szSessionS k k = l0_l_szSessionS k k from (e_l_szSessionS k k)] <;> rfl
noncomputable def sp_l_szSessionS (k : Nat) : Spec := .imm (.slice 207 ySession) fun (a0 : List TSession) => .imm (.int .i64) fun (a1 : Int) => .body (l_szSessionS k a0 a1) (outV [(.int .i64)] [])
noncomputable def c_l_szOut (k : Nat) : Cfg := { eqs := [], tab := [(22, (.slice 3 (.int .i64))), (209, yOut)], spec := [(149, sp_l_szIntS k)], mspec := [], inl := [(201, Try.f201)], keep := [], join := [], hold := [], ptrs := [], maps := [], fuel := k }
noncomputable def fin_l_szOut : VV → Ms → Option Int := finV [(.int .i64)] []
theorem r_l_szOut (k : Nat) (a0 : TOut) (a1 : Int) : runX (c_l_szOut k) fin_l_szOut k 201 [argV yOut a0, argV (.int .i64) a1] ms0 = l_szOut k a0 a1 := by kernel_rfl
noncomputable def sp_l_szOut (k : Nat) : Spec := .imm yOut fun (a0 : TOut) => .imm (.int .i64) fun (a1 : Int) => .body (l_szOut k a0 a1) (outV [(.int .i64)] [])
noncomputable def c_l_szOutS (k : Nat) : Cfg := { eqs := [], tab := [(38, (.slice 209 yOut)), (209, yOut)], spec := [(201, sp_l_szOut k)], mspec := [], inl := [(109, Try.f109)], keep := [(10900001005, [0, 1, 5])], join := [], hold := [], ptrs := [], maps := [], fuel := k }
noncomputable def fin_l_szOutS : VV → Ms → Option Int := finV [(.int .i64)] []
noncomputable def V0_l_szOutS (k n : Nat) (a0 : List TOut) (v1 : Int) (v2 : Int) : Option Int := lpN (c_l_szOutS k) fin_l_szOutS n true 10900001005 (cd [1, 1, 1, 0, 1, 0, 0] (bo Try.f109)) [.b 0, .s (cd [1, 1, 1, 1] (bo Try.f109)), .fn Try.f109] ⟨⟨(mkT 27 0 [(0, one (.slc 209 yOut a0)), (1, one (.int .i64 v1)), (5, one (.int .i64 v2))]), []⟩, 10900001000, 1, [(0, (mkT 0 0 []))]⟩
theorem t0_l_szOutS (k n : Nat) (a0 : List TOut) (v1 : Int) (v2 : Int) : V0_l_szOutS k (n + 1) a0 v1 v2 = b0_l_szOutS k (V0_l_szOutS k n) a0 v1 v2 := by kernel_rfl
theorem e_l_szOutS (k : Nat) : ∀ n : Nat, V0_l_szOutS k n = l0_l_szOutS k n
  | 0 => (by funext a0 v1 v2; rfl)
  | n + 1 => by
    obtain h0 := e_l_szOutS k n
    exact (by funext a0 v1 v2; rw [t0_l_szOutS, h0] <;> rfl)
theorem u_l_szOutS (k : Nat) (a0 : List TOut) (a1 : Int) : runX (c_l_szOutS k) fin_l_szOutS k 109 [argV (.slice 209 yOut) a0, argV (.int .i64) a1] ms0 = g_l_szOutS k (V0_l_szOutS k k) a0 a1 := by kernel_rfl
theorem r_l_szOutS (k : Nat) (a0 : List TOut) (a1 : Int) : runX (c_l_szOutS k) fin_l_szOutS k 109 [argV (.slice 209 yOut) a0, argV (.int .i64) a1] ms0 = l_szOutS k a0 a1 := by rw [u_l_szOutS, show V0_l_szOutS k k = l0_l_szOutS k k from (e_l_szOutS k k)] <;> rfl
noncomputable def sp_l_szOutS (k : Nat) : Spec := .imm (.slice 209 yOut) fun (a0 : List TOut) => .imm (.int .i64) fun (a1 : Int) => .body (l_szOutS k a0 a1) (outV [(.int .i64)] [])
noncomputable def c_l_szHall (k : Nat) : Cfg := { eqs := [], tab := [(32, (.slice 207 ySession)), (37, yRoom), (38, (.slice 209 yOut)), (40, yHall)], spec := [(72, sp_l_szRoom k), (108, sp_l_szSessionS k), (109, sp_l_szOutS k)], mspec := [], inl := [(20, Try.f20)], keep := [], join := [], hold := [], ptrs := [], maps := [], fuel := k }
noncomputable def fin_l_szHall : VV → Ms → Option Int := finV [(.int .i64)] []
theorem r_l_szHall (k : Nat) (a0 : THall) (a1 : Int) : runX (c_l_szHall k) fin_l_szHall k 20 [argV yHall a0, argV (.int .i64) a1] ms0 = l_szHall k a0 a1 := by kernel_rfl
noncomputable def sp_l_szHall (k : Nat) : Spec := .imm yHall fun (a0 : THall) => .imm (.int .i64) fun (a1 : Int) => .body (l_szHall k a0 a1) (outV [(.int .i64)] [])
noncomputable def c_s_l12SameState (k : Nat) : Cfg := { eqs := [129], tab := [(78, (.slice 129 yItem)), (129, yItem)], spec := [], mspec := [], inl := [(203, Try.f203)], keep := [(20300001004, [0, 1, 5])], join := [], hold := [], ptrs := [], maps := [], fuel := k }
noncomputable def fin_s_l12SameState : VV → Ms → Option Bool := finV [.bool] []
noncomputable def V0_s_l12SameState (k n : Nat) (a0 : List TItem) (a1 : List TItem) (v1 : Int) : Option Bool := lpN (c_s_l12SameState k) fin_s_l12SameState n true 20300001004 (cd [1, 1, 0, 1, 0, 0] (bo Try.f203)) [.b 0, .s (cd [1, 1, 1] (bo Try.f203)), .fn Try.f203] ⟨⟨(mkT 26 0 [(0, one (.slc 129 yItem a0)), (1, one (.slc 129 yItem a1)), (5, one (.int .i64 v1))]), []⟩, 20300001000, 1, [(0, (mkT 0 0 []))]⟩
theorem t0_s_l12SameState (k n : Nat) (a0 : List TItem) (a1 : List TItem) (v1 : Int) : V0_s_l12SameState k (n + 1) a0 a1 v1 = b0_s_l12SameState k (V0_s_l12SameState k n) a0 a1 v1 := by kernel_rfl
theorem e_s_l12SameState (k : Nat) : ∀ n : Nat, V0_s_l12SameState k n = l0_s_l12SameState k n
  | 0 => (by funext a0 a1 v1; rfl)
  | n + 1 => by
    obtain h0 := e_s_l12SameState k n
    exact (by funext a0 a1 v1; rw [t0_s_l12SameState, h0] <;> rfl)
theorem u_s_l12SameState (k : Nat) (a0 : List TItem) (a1 : List TItem) : runX (c_s_l12SameState k) fin_s_l12SameState k 203 [argV (.slice 129 yItem) a0, argV (.slice 129 yItem) a1] ms0 = g_s_l12SameState k (V0_s_l12SameState k k) a0 a1 := by kernel_rfl
theorem r_s_l12SameState (k : Nat) (a0 : List TItem) (a1 : List TItem) : runX (c_s_l12SameState k) fin_s_l12SameState k 203 [argV (.slice 129 yItem) a0, argV (.slice 129 yItem) a1] ms0 = s_l12SameState k a0 a1 := by rw [u_s_l12SameState, show V0_s_l12SameState k k = l0_s_l12SameState k k from (e_s_l12SameState k k)] <;> rfl
noncomputable def sp_s_l12SameState (k : Nat) : Spec := .imm (.slice 129 yItem) fun (a0 : List TItem) => .imm (.slice 129 yItem) fun (a1 : List TItem) => .body (s_l12SameState k a0 a1) (outV [.bool] [])
noncomputable def c_s_l12Same (k : Nat) : Cfg := { eqs := [], tab := [(4, .bool), (24, yEvent), (35, (.slice 4 .bool)), (44, (.slice 24 yEvent)), (45, (.slice 78 (.slice 129 yItem))), (47, yRoom1), (78, (.slice 129 yItem))], spec := [(202, sp_s_l09Same k), (203, sp_s_l12SameState k)], mspec := [], inl := [(110, Try.f110)], keep := [(11000001004, [2, 3, 5]), (11000001009, [2, 3, 6]), (11000001014, [2, 3, 7])], join := [], hold := [], ptrs := [], maps := [], fuel := k }
noncomputable def fin_s_l12Same : VV → Ms → Option Bool := finV [.bool] []
noncomputable def V2_s_l12Same (k n : Nat) (v3 : Int) (a0 : TRoom) (a1 : TRoom) : Option Bool := lpN (c_s_l12Same k) fin_s_l12Same n true 11000001014 (cd [1, 1, 1, 1, 0, 1, 0, 0] (bo Try.f110)) [.b 4, .s (cd [1, 1, 1, 1, 1] (bo Try.f110)), .fn Try.f110] ⟨⟨(mkT 89 0 [(2, one (.ptr 9000000 0)), (3, one (.ptr 9000001 0)), (7, one (.int .i64 v3))]), [(9000000, .box [.slc 24 yEvent a0.1, .slc 78 (.slice 129 yItem) a0.2.1, .slc 4 .bool a0.2.2.1]), (9000001, .box [.slc 24 yEvent a1.1, .slc 78 (.slice 129 yItem) a1.2.1, .slc 4 .bool a1.2.2.1])]⟩, 11000001000, 1, [(0, (mkT 0 0 []))]⟩
noncomputable def V1_s_l12Same (k n : Nat) (v2 : Int) (a0 : TRoom) (a1 : TRoom) : Option Bool := lpN (c_s_l12Same k) fin_s_l12Same n true 11000001009 (cd [1, 1, 1, 0, 1, 0, 0] (bo Try.f110)) [.b 2, .s (cd [1, 1, 1, 1] (bo Try.f110)), .fn Try.f110] ⟨⟨(mkT 89 0 [(2, one (.ptr 9000000 0)), (3, one (.ptr 9000001 0)), (6, one (.int .i64 v2))]), [(9000000, .box [.slc 24 yEvent a0.1, .slc 78 (.slice 129 yItem) a0.2.1, .slc 4 .bool a0.2.2.1]), (9000001, .box [.slc 24 yEvent a1.1, .slc 78 (.slice 129 yItem) a1.2.1, .slc 4 .bool a1.2.2.1])]⟩, 11000001000, 1, [(0, (mkT 0 0 []))]⟩
noncomputable def V0_s_l12Same (k n : Nat) (v1 : Int) (a0 : TRoom) (a1 : TRoom) : Option Bool := lpN (c_s_l12Same k) fin_s_l12Same n true 11000001004 (cd [1, 1, 0, 1, 0, 0] (bo Try.f110)) [.b 0, .s (cd [1, 1, 1] (bo Try.f110)), .fn Try.f110] ⟨⟨(mkT 89 0 [(2, one (.ptr 9000000 0)), (3, one (.ptr 9000001 0)), (5, one (.int .i64 v1))]), [(9000000, .box [.slc 24 yEvent a0.1, .slc 78 (.slice 129 yItem) a0.2.1, .slc 4 .bool a0.2.2.1]), (9000001, .box [.slc 24 yEvent a1.1, .slc 78 (.slice 129 yItem) a1.2.1, .slc 4 .bool a1.2.2.1])]⟩, 11000001000, 1, [(0, (mkT 0 0 []))]⟩
theorem t2_s_l12Same (k n : Nat) (v3 : Int) (a0 : TRoom) (a1 : TRoom) : V2_s_l12Same k (n + 1) v3 a0 a1 = b2_s_l12Same k (V2_s_l12Same k n) v3 a0 a1 := by kernel_rfl
theorem t1_s_l12Same (k n : Nat) (v2 : Int) (a0 : TRoom) (a1 : TRoom) : V1_s_l12Same k (n + 1) v2 a0 a1 = b1_s_l12Same k (V1_s_l12Same k n) (V2_s_l12Same k n) v2 a0 a1 := by kernel_rfl
theorem t0_s_l12Same (k n : Nat) (v1 : Int) (a0 : TRoom) (a1 : TRoom) : V0_s_l12Same k (n + 1) v1 a0 a1 = b0_s_l12Same k (V0_s_l12Same k n) (V1_s_l12Same k n) v1 a0 a1 := by kernel_rfl
theorem e_s_l12Same (k : Nat) : ∀ n : Nat, V2_s_l12Same k n = l2_s_l12Same k n ∧ V1_s_l12Same k n = l1_s_l12Same k n ∧ V0_s_l12Same k n = l0_s_l12Same k n
  | 0 => ⟨(by funext v3 a0 a1; rfl), (by funext v2 a0 a1; rfl), (by funext v1 a0 a1; rfl)⟩
  | n + 1 => by
    obtain ⟨h2, h1, h0⟩ := e_s_l12Same k n
    exact ⟨(by funext v3 a0 a1; rw [t2_s_l12Same, h2] <;> rfl), (by funext v2 a0 a1; rw [t1_s_l12Same, h1, h2] <;> rfl), (by funext v1 a0 a1; rw [t0_s_l12Same, h0, h1] <;> rfl)⟩
theorem u_s_l12Same (k : Nat) (a0 : TRoom) (a1 : TRoom) : runX (c_s_l12Same k) fin_s_l12Same k 110 [argV yRoom1 a0, argV yRoom1 a1] ms0 = g_s_l12Same k (V0_s_l12Same k k) a0 a1 := by kernel_rfl
theorem r_s_l12Same (k : Nat) (a0 : TRoom) (a1 : TRoom) : runX (c_s_l12Same k) fin_s_l12Same k 110 [argV yRoom1 a0, argV yRoom1 a1] ms0 = s_l12Same k a0 a1 := by rw [u_s_l12Same, show V0_s_l12Same k k = l0_s_l12Same k k from (e_s_l12Same k k).2.2] <;> rfl
noncomputable def sp_s_l12Same (k : Nat) : Spec := .imm yRoom1 fun (a0 : TRoom) => .imm yRoom1 fun (a1 : TRoom) => .body (s_l12Same k a0 a1) (outV [.bool] [])
noncomputable def c_s_SameHall (k : Nat) : Cfg := { eqs := [149], tab := [(3, (.int .i64)), (22, (.slice 3 (.int .i64))), (43, (.slice 149 ySession)), (47, yRoom1), (48, (.slice 151 yOut)), (50, yHall1), (149, ySession), (151, yOut)], spec := [(110, sp_s_l12Same k), (111, sp_s_l05SameInts k)], mspec := [], inl := [(21, Try.f21)], keep := [(2100001004, [2, 3, 5]), (2100001009, [2, 3, 6])], join := [], hold := [], ptrs := [], maps := [], fuel := k }
noncomputable def fin_s_SameHall : VV → Ms → Option Bool := finV [.bool] []
noncomputable def V1_s_SameHall (k n : Nat) (v2 : Int) (a0 : THall) (a1 : THall) : Option Bool := lpN (c_s_SameHall k) fin_s_SameHall n true 2100001009 (cd [1, 1, 1, 0, 1, 0, 0] (bo Try.f21)) [.b 2, .s (cd [1, 1, 1, 1] (bo Try.f21)), .fn Try.f21] ⟨⟨(mkT 100 0 [(2, one (.ptr 9000000 0)), (3, one (.ptr 9000001 0)), (6, one (.int .i64 v2))]), [(9000000, .box [.slc 149 ySession a0.1, .slc 24 yEvent a0.2.1.1, .slc 78 (.slice 129 yItem) a0.2.1.2.1, .slc 4 .bool a0.2.1.2.2.1, .slc 151 yOut a0.2.2.1]), (9000001, .box [.slc 149 ySession a1.1, .slc 24 yEvent a1.2.1.1, .slc 78 (.slice 129 yItem) a1.2.1.2.1, .slc 4 .bool a1.2.1.2.2.1, .slc 151 yOut a1.2.2.1])]⟩, 2100001000, 1, [(0, (mkT 0 0 []))]⟩
noncomputable def V0_s_SameHall (k n : Nat) (v1 : Int) (a0 : THall) (a1 : THall) : Option Bool := lpN (c_s_SameHall k) fin_s_SameHall n true 2100001004 (cd [1, 1, 0, 1, 0, 0] (bo Try.f21)) [.b 0, .s (cd [1, 1, 1] (bo Try.f21)), .fn Try.f21] ⟨⟨(mkT 100 0 [(2, one (.ptr 9000000 0)), (3, one (.ptr 9000001 0)), (5, one (.int .i64 v1))]), [(9000000, .box [.slc 149 ySession a0.1, .slc 24 yEvent a0.2.1.1, .slc 78 (.slice 129 yItem) a0.2.1.2.1, .slc 4 .bool a0.2.1.2.2.1, .slc 151 yOut a0.2.2.1]), (9000001, .box [.slc 149 ySession a1.1, .slc 24 yEvent a1.2.1.1, .slc 78 (.slice 129 yItem) a1.2.1.2.1, .slc 4 .bool a1.2.1.2.2.1, .slc 151 yOut a1.2.2.1])]⟩, 2100001000, 1, [(0, (mkT 0 0 []))]⟩
theorem t1_s_SameHall (k n : Nat) (v2 : Int) (a0 : THall) (a1 : THall) : V1_s_SameHall k (n + 1) v2 a0 a1 = b1_s_SameHall k (V1_s_SameHall k n) v2 a0 a1 := by kernel_rfl
theorem t0_s_SameHall (k n : Nat) (v1 : Int) (a0 : THall) (a1 : THall) : V0_s_SameHall k (n + 1) v1 a0 a1 = b0_s_SameHall k (V0_s_SameHall k n) (V1_s_SameHall k n) v1 a0 a1 := by kernel_rfl
theorem e_s_SameHall (k : Nat) : ∀ n : Nat, V1_s_SameHall k n = l1_s_SameHall k n ∧ V0_s_SameHall k n = l0_s_SameHall k n
  | 0 => ⟨(by funext v2 a0 a1; rfl), (by funext v1 a0 a1; rfl)⟩
  | n + 1 => by
    obtain ⟨h1, h0⟩ := e_s_SameHall k n
    exact ⟨(by funext v2 a0 a1; rw [t1_s_SameHall, h1] <;> rfl), (by funext v1 a0 a1; rw [t0_s_SameHall, h0, h1] <;> rfl)⟩
theorem u_s_SameHall (k : Nat) (a0 : THall) (a1 : THall) : runX (c_s_SameHall k) fin_s_SameHall k 21 [argV yHall1 a0, argV yHall1 a1] ms0 = g_s_SameHall k (V0_s_SameHall k k) a0 a1 := by kernel_rfl
theorem r_s_SameHall (k : Nat) (a0 : THall) (a1 : THall) : runX (c_s_SameHall k) fin_s_SameHall k 21 [argV yHall1 a0, argV yHall1 a1] ms0 = s_SameHall k a0 a1 := by rw [u_s_SameHall, show V0_s_SameHall k k = l0_s_SameHall k k from (e_s_SameHall k k).2] <;> rfl
noncomputable def sp_s_SameHall (k : Nat) : Spec := .imm yHall1 fun (a0 : THall) => .imm yHall1 fun (a1 : THall) => .body (s_SameHall k a0 a1) (outV [.bool] [])
noncomputable def c_l_toItem (k : Nat) : Cfg := { eqs := [], tab := [(3, (.int .i64)), (129, yItem), (179, yItem)], spec := [], mspec := [], inl := [(152, Try.f152)], keep := [], join := [], hold := [], ptrs := [], maps := [], fuel := k }
noncomputable def fin_l_toItem : VV → Ms → Option TItem := finV [yItem] []
theorem r_l_toItem (k : Nat) (a0 : TItem) : runX (c_l_toItem k) fin_l_toItem k 152 [argV yItem a0] ms0 = l_toItem k a0 := by kernel_rfl
noncomputable def sp_l_toItem (k : Nat) : Spec := .imm yItem fun (a0 : TItem) => .body (l_toItem k a0) (outV [yItem] [])
noncomputable def c_l_toItemS (k : Nat) : Cfg := { eqs := [], tab := [(78, (.slice 129 yItem)), (88, (.slice 179 yItem)), (129, yItem), (179, yItem)], spec := [(152, sp_l_toItem k)], mspec := [], inl := [(65, Try.f65)], keep := [(6500001003, [0, 3, 4])], join := [], hold := [], ptrs := [], maps := [], fuel := k }
noncomputable def fin_l_toItemS : VV → Ms → Option (List TItem) := finV [(.slice 129 yItem)] [true]
noncomputable def V0_l_toItemS (k n : Nat) (a0 : List TItem) (v1 : Int) (xs2 : List TItem) : Option (List TItem) := lpN (c_l_toItemS k) fin_l_toItemS n true 6500001003 (cd [1, 1, 0, 1, 0, 0] (bo Try.f65)) [.b 0, .s (cd [1, 1, 1] (bo Try.f65)), .fn Try.f65] ⟨⟨(mkT 23 0 [(0, one (.slc 179 yItem a0)), (3, one (.row 9000000 none none)), (4, one (.int .i64 v1))]), [(9000000, .row 129 yItem xs2 true)]⟩, 6500001000, 1, [(0, (mkT 0 0 []))]⟩
theorem t0_l_toItemS (k n : Nat) (a0 : List TItem) (v1 : Int) (xs2 : List TItem) : V0_l_toItemS k (n + 1) a0 v1 xs2 = b0_l_toItemS k (V0_l_toItemS k n) a0 v1 xs2 := by kernel_rfl
theorem e_l_toItemS (k : Nat) : ∀ n : Nat, V0_l_toItemS k n = l0_l_toItemS k n
  | 0 => (by funext a0 v1 xs2; rfl)
  | n + 1 => by
    obtain h0 := e_l_toItemS k n
    exact (by funext a0 v1 xs2; rw [t0_l_toItemS, h0] <;> rfl)
theorem u_l_toItemS (k : Nat) (a0 : List TItem) : runX (c_l_toItemS k) fin_l_toItemS k 65 [argV (.slice 179 yItem) a0] ms0 = g_l_toItemS k (V0_l_toItemS k k) a0 := by kernel_rfl
theorem r_l_toItemS (k : Nat) (a0 : List TItem) : runX (c_l_toItemS k) fin_l_toItemS k 65 [argV (.slice 179 yItem) a0] ms0 = l_toItemS k a0 := by rw [u_l_toItemS, show V0_l_toItemS k k = l0_l_toItemS k k from (e_l_toItemS k k)] <;> rfl
noncomputable def sp_l_toItemS (k : Nat) : Spec := .imm (.slice 179 yItem) fun (a0 : List TItem) => .body (l_toItemS k a0) (outV [(.slice 129 yItem)] [true])
noncomputable def c_l_toItemSS (k : Nat) : Cfg := { eqs := [], tab := [(34, (.slice 88 (.slice 179 yItem))), (45, (.slice 78 (.slice 129 yItem))), (78, (.slice 129 yItem)), (88, (.slice 179 yItem))], spec := [(65, sp_l_toItemS k)], mspec := [], inl := [(48, Try.f48)], keep := [(4800001003, [0, 3, 4])], join := [], hold := [], ptrs := [], maps := [], fuel := k }
noncomputable def fin_l_toItemSS : VV → Ms → Option (List (List TItem)) := finV [(.slice 78 (.slice 129 yItem))] [true]
noncomputable def V0_l_toItemSS (k n : Nat) (a0 : List (List TItem)) (v1 : Int) (xs2 : List (List TItem)) : Option (List (List TItem)) := lpN (c_l_toItemSS k) fin_l_toItemSS n true 4800001003 (cd [1, 1, 0, 1, 0, 0] (bo Try.f48)) [.b 0, .s (cd [1, 1, 1] (bo Try.f48)), .fn Try.f48] ⟨⟨(mkT 23 0 [(0, one (.slc 88 (.slice 179 yItem) a0)), (3, one (.row 9000000 none none)), (4, one (.int .i64 v1))]), [(9000000, .row 78 (.slice 129 yItem) xs2 true)]⟩, 4800001000, 1, [(0, (mkT 0 0 []))]⟩
theorem t0_l_toItemSS (k n : Nat) (a0 : List (List TItem)) (v1 : Int) (xs2 : List (List TItem)) : V0_l_toItemSS k (n + 1) a0 v1 xs2 = b0_l_toItemSS k (V0_l_toItemSS k n) a0 v1 xs2 := by kernel_rfl
theorem e_l_toItemSS (k : Nat) : ∀ n : Nat, V0_l_toItemSS k n = l0_l_toItemSS k n
  | 0 => (by funext a0 v1 xs2; rfl)
  | n + 1 => by
    obtain h0 := e_l_toItemSS k n
    exact (by funext a0 v1 xs2; rw [t0_l_toItemSS, h0] <;> rfl)
theorem u_l_toItemSS (k : Nat) (a0 : List (List TItem)) : runX (c_l_toItemSS k) fin_l_toItemSS k 48 [argV (.slice 88 (.slice 179 yItem)) a0] ms0 = g_l_toItemSS k (V0_l_toItemSS k k) a0 := by kernel_rfl
theorem r_l_toItemSS (k : Nat) (a0 : List (List TItem)) : runX (c_l_toItemSS k) fin_l_toItemSS k 48 [argV (.slice 88 (.slice 179 yItem)) a0] ms0 = l_toItemSS k a0 := by rw [u_l_toItemSS, show V0_l_toItemSS k k = l0_l_toItemSS k k from (e_l_toItemSS k k)] <;> rfl
noncomputable def sp_l_toItemSS (k : Nat) : Spec := .imm (.slice 88 (.slice 179 yItem)) fun (a0 : List (List TItem)) => .body (l_toItemSS k a0) (outV [(.slice 78 (.slice 129 yItem))] [true])
noncomputable def c_l_toIntS (k : Nat) : Cfg := { eqs := [], tab := [(3, (.int .i64)), (22, (.slice 3 (.int .i64)))], spec := [], mspec := [], inl := [(153, Try.f153)], keep := [(15300001003, [0, 3, 4])], join := [], hold := [], ptrs := [], maps := [], fuel := k }
noncomputable def fin_l_toIntS : VV → Ms → Option (List Int) := finV [(.slice 3 (.int .i64))] [true]
noncomputable def V0_l_toIntS (k n : Nat) (a0 : List Int) (v1 : Int) (xs2 : List Int) : Option (List Int) := lpN (c_l_toIntS k) fin_l_toIntS n true 15300001003 (cd [1, 1, 0, 1, 0, 0] (bo Try.f153)) [.b 0, .s (cd [1, 1, 1] (bo Try.f153)), .fn Try.f153] ⟨⟨(mkT 22 0 [(0, one (.slc 3 (.int .i64) a0)), (3, one (.row 9000000 none none)), (4, one (.int .i64 v1))]), [(9000000, .row 3 (.int .i64) xs2 true)]⟩, 15300001000, 1, [(0, (mkT 0 0 []))]⟩
theorem t0_l_toIntS (k n : Nat) (a0 : List Int) (v1 : Int) (xs2 : List Int) : V0_l_toIntS k (n + 1) a0 v1 xs2 = b0_l_toIntS k (V0_l_toIntS k n) a0 v1 xs2 := by kernel_rfl
theorem e_l_toIntS (k : Nat) : ∀ n : Nat, V0_l_toIntS k n = l0_l_toIntS k n
  | 0 => (by funext a0 v1 xs2; rfl)
  | n + 1 => by
    obtain h0 := e_l_toIntS k n
    exact (by funext a0 v1 xs2; rw [t0_l_toIntS, h0] <;> rfl)
theorem u_l_toIntS (k : Nat) (a0 : List Int) : runX (c_l_toIntS k) fin_l_toIntS k 153 [argV (.slice 3 (.int .i64)) a0] ms0 = g_l_toIntS k (V0_l_toIntS k k) a0 := by kernel_rfl
theorem r_l_toIntS (k : Nat) (a0 : List Int) : runX (c_l_toIntS k) fin_l_toIntS k 153 [argV (.slice 3 (.int .i64)) a0] ms0 = l_toIntS k a0 := by rw [u_l_toIntS, show V0_l_toIntS k k = l0_l_toIntS k k from (e_l_toIntS k k)] <;> rfl
noncomputable def sp_l_toIntS (k : Nat) : Spec := .imm (.slice 3 (.int .i64)) fun (a0 : List Int) => .body (l_toIntS k a0) (outV [(.slice 3 (.int .i64))] [true])
noncomputable def c_l_toEvent (k : Nat) : Cfg := { eqs := [], tab := [(3, (.int .i64)), (9, .str), (22, (.slice 3 (.int .i64))), (24, yEvent), (89, yEvent)], spec := [(153, sp_l_toIntS k)], mspec := [], inl := [(66, Try.f66)], keep := [], join := [], hold := [], ptrs := [], maps := [], fuel := k }
noncomputable def fin_l_toEvent : VV → Ms → Option TEvent := finV [yEvent] [true, true]
theorem r_l_toEvent (k : Nat) (a0 : TEvent) : runX (c_l_toEvent k) fin_l_toEvent k 66 [argV yEvent a0] ms0 = l_toEvent k a0 := by kernel_rfl
noncomputable def sp_l_toEvent (k : Nat) : Spec := .imm yEvent fun (a0 : TEvent) => .body (l_toEvent k a0) (outV [yEvent] [true, true])
noncomputable def c_l_toEventS (k : Nat) : Cfg := { eqs := [], tab := [(24, yEvent), (33, (.slice 89 yEvent)), (44, (.slice 24 yEvent)), (89, yEvent)], spec := [(66, sp_l_toEvent k)], mspec := [], inl := [(64, Try.f64)], keep := [(6400001003, [0, 3, 4])], join := [], hold := [], ptrs := [], maps := [], fuel := k }
noncomputable def fin_l_toEventS : VV → Ms → Option (List TEvent) := finV [(.slice 24 yEvent)] [true]
noncomputable def V0_l_toEventS (k n : Nat) (a0 : List TEvent) (v1 : Int) (xs2 : List TEvent) : Option (List TEvent) := lpN (c_l_toEventS k) fin_l_toEventS n true 6400001003 (cd [1, 1, 0, 1, 0, 0] (bo Try.f64)) [.b 0, .s (cd [1, 1, 1] (bo Try.f64)), .fn Try.f64] ⟨⟨(mkT 23 0 [(0, one (.slc 89 yEvent a0)), (3, one (.row 9000000 none none)), (4, one (.int .i64 v1))]), [(9000000, .row 24 yEvent xs2 true)]⟩, 6400001000, 1, [(0, (mkT 0 0 []))]⟩
theorem t0_l_toEventS (k n : Nat) (a0 : List TEvent) (v1 : Int) (xs2 : List TEvent) : V0_l_toEventS k (n + 1) a0 v1 xs2 = b0_l_toEventS k (V0_l_toEventS k n) a0 v1 xs2 := by kernel_rfl
theorem e_l_toEventS (k : Nat) : ∀ n : Nat, V0_l_toEventS k n = l0_l_toEventS k n
  | 0 => (by funext a0 v1 xs2; rfl)
  | n + 1 => by
    obtain h0 := e_l_toEventS k n
    exact (by funext a0 v1 xs2; rw [t0_l_toEventS, h0] <;> rfl)
theorem u_l_toEventS (k : Nat) (a0 : List TEvent) : runX (c_l_toEventS k) fin_l_toEventS k 64 [argV (.slice 89 yEvent) a0] ms0 = g_l_toEventS k (V0_l_toEventS k k) a0 := by kernel_rfl
theorem r_l_toEventS (k : Nat) (a0 : List TEvent) : runX (c_l_toEventS k) fin_l_toEventS k 64 [argV (.slice 89 yEvent) a0] ms0 = l_toEventS k a0 := by rw [u_l_toEventS, show V0_l_toEventS k k = l0_l_toEventS k k from (e_l_toEventS k k)] <;> rfl
noncomputable def sp_l_toEventS (k : Nat) : Spec := .imm (.slice 89 yEvent) fun (a0 : List TEvent) => .body (l_toEventS k a0) (outV [(.slice 24 yEvent)] [true])
noncomputable def c_l_toBoolS (k : Nat) : Cfg := { eqs := [], tab := [(4, .bool), (35, (.slice 4 .bool))], spec := [], mspec := [], inl := [(160, Try.f160)], keep := [(16000001003, [0, 3, 4])], join := [], hold := [], ptrs := [], maps := [], fuel := k }
noncomputable def fin_l_toBoolS : VV → Ms → Option (List Bool) := finV [(.slice 4 .bool)] [true]
noncomputable def V0_l_toBoolS (k n : Nat) (a0 : List Bool) (v1 : Int) (xs2 : List Bool) : Option (List Bool) := lpN (c_l_toBoolS k) fin_l_toBoolS n true 16000001003 (cd [1, 1, 0, 1, 0, 0] (bo Try.f160)) [.b 0, .s (cd [1, 1, 1] (bo Try.f160)), .fn Try.f160] ⟨⟨(mkT 22 0 [(0, one (.slc 4 .bool a0)), (3, one (.row 9000000 none none)), (4, one (.int .i64 v1))]), [(9000000, .row 4 .bool xs2 true)]⟩, 16000001000, 1, [(0, (mkT 0 0 []))]⟩
theorem t0_l_toBoolS (k n : Nat) (a0 : List Bool) (v1 : Int) (xs2 : List Bool) : V0_l_toBoolS k (n + 1) a0 v1 xs2 = b0_l_toBoolS k (V0_l_toBoolS k n) a0 v1 xs2 := by kernel_rfl
theorem e_l_toBoolS (k : Nat) : ∀ n : Nat, V0_l_toBoolS k n = l0_l_toBoolS k n
  | 0 => (by funext a0 v1 xs2; rfl)
  | n + 1 => by
    obtain h0 := e_l_toBoolS k n
    exact (by funext a0 v1 xs2; rw [t0_l_toBoolS, h0] <;> rfl)
theorem u_l_toBoolS (k : Nat) (a0 : List Bool) : runX (c_l_toBoolS k) fin_l_toBoolS k 160 [argV (.slice 4 .bool) a0] ms0 = g_l_toBoolS k (V0_l_toBoolS k k) a0 := by kernel_rfl
theorem r_l_toBoolS (k : Nat) (a0 : List Bool) : runX (c_l_toBoolS k) fin_l_toBoolS k 160 [argV (.slice 4 .bool) a0] ms0 = l_toBoolS k a0 := by rw [u_l_toBoolS, show V0_l_toBoolS k k = l0_l_toBoolS k k from (e_l_toBoolS k k)] <;> rfl
noncomputable def sp_l_toBoolS (k : Nat) : Spec := .imm (.slice 4 .bool) fun (a0 : List Bool) => .body (l_toBoolS k a0) (outV [(.slice 4 .bool)] [true])
noncomputable def c_l_toRoom (k : Nat) : Cfg := { eqs := [], tab := [(33, (.slice 89 yEvent)), (34, (.slice 88 (.slice 179 yItem))), (35, (.slice 4 .bool)), (37, yRoom), (44, (.slice 24 yEvent)), (45, (.slice 78 (.slice 129 yItem))), (47, yRoom1)], spec := [(48, sp_l_toItemSS k), (64, sp_l_toEventS k), (160, sp_l_toBoolS k)], mspec := [], inl := [(74, Try.f74)], keep := [], join := [], hold := [], ptrs := [], maps := [], fuel := k }
noncomputable def fin_l_toRoom : VV → Ms → Option TRoom := finV [yRoom1] [true, true, true]
theorem r_l_toRoom (k : Nat) (a0 : TRoom) : runX (c_l_toRoom k) fin_l_toRoom k 74 [argV yRoom a0] ms0 = l_toRoom k a0 := by kernel_rfl
noncomputable def sp_l_toRoom (k : Nat) : Spec := .imm yRoom fun (a0 : TRoom) => .body (l_toRoom k a0) (outV [yRoom1] [true, true, true])
noncomputable def c_l_toSession (k : Nat) : Cfg := { eqs := [], tab := [(3, (.int .i64)), (9, .str), (149, ySession), (207, ySession)], spec := [], mspec := [], inl := [(204, Try.f204)], keep := [], join := [], hold := [], ptrs := [], maps := [], fuel := k }
noncomputable def fin_l_toSession : VV → Ms → Option TSession := finV [ySession] []
theorem r_l_toSession (k : Nat) (a0 : TSession) : runX (c_l_toSession k) fin_l_toSession k 204 [argV ySession a0] ms0 = l_toSession k a0 := by kernel_rfl
noncomputable def sp_l_toSession (k : Nat) : Spec := .imm ySession fun (a0 : TSession) => .body (l_toSession k a0) (outV [ySession] [])
noncomputable def c_l_toSessionS (k : Nat) : Cfg := { eqs := [], tab := [(32, (.slice 207 ySession)), (43, (.slice 149 ySession)), (149, ySession), (207, ySession)], spec := [(204, sp_l_toSession k)], mspec := [], inl := [(112, Try.f112)], keep := [(11200001003, [0, 3, 4])], join := [], hold := [], ptrs := [], maps := [], fuel := k }
noncomputable def fin_l_toSessionS : VV → Ms → Option (List TSession) := finV [(.slice 149 ySession)] [true]
noncomputable def V0_l_toSessionS (k n : Nat) (a0 : List TSession) (v1 : Int) (xs2 : List TSession) : Option (List TSession) := lpN (c_l_toSessionS k) fin_l_toSessionS n true 11200001003 (cd [1, 1, 0, 1, 0, 0] (bo Try.f112)) [.b 0, .s (cd [1, 1, 1] (bo Try.f112)), .fn Try.f112] ⟨⟨(mkT 23 0 [(0, one (.slc 207 ySession a0)), (3, one (.row 9000000 none none)), (4, one (.int .i64 v1))]), [(9000000, .row 149 ySession xs2 true)]⟩, 11200001000, 1, [(0, (mkT 0 0 []))]⟩
theorem t0_l_toSessionS (k n : Nat) (a0 : List TSession) (v1 : Int) (xs2 : List TSession) : V0_l_toSessionS k (n + 1) a0 v1 xs2 = b0_l_toSessionS k (V0_l_toSessionS k n) a0 v1 xs2 := by kernel_rfl
theorem e_l_toSessionS (k : Nat) : ∀ n : Nat, V0_l_toSessionS k n = l0_l_toSessionS k n
  | 0 => (by funext a0 v1 xs2; rfl)
  | n + 1 => by
    obtain h0 := e_l_toSessionS k n
    exact (by funext a0 v1 xs2; rw [t0_l_toSessionS, h0] <;> rfl)
theorem u_l_toSessionS (k : Nat) (a0 : List TSession) : runX (c_l_toSessionS k) fin_l_toSessionS k 112 [argV (.slice 207 ySession) a0] ms0 = g_l_toSessionS k (V0_l_toSessionS k k) a0 := by kernel_rfl
theorem r_l_toSessionS (k : Nat) (a0 : List TSession) : runX (c_l_toSessionS k) fin_l_toSessionS k 112 [argV (.slice 207 ySession) a0] ms0 = l_toSessionS k a0 := by rw [u_l_toSessionS, show V0_l_toSessionS k k = l0_l_toSessionS k k from (e_l_toSessionS k k)] <;> rfl
noncomputable def sp_l_toSessionS (k : Nat) : Spec := .imm (.slice 207 ySession) fun (a0 : List TSession) => .body (l_toSessionS k a0) (outV [(.slice 149 ySession)] [true])
noncomputable def c_l_toOut (k : Nat) : Cfg := { eqs := [], tab := [(3, (.int .i64)), (22, (.slice 3 (.int .i64))), (151, yOut), (209, yOut)], spec := [(153, sp_l_toIntS k)], mspec := [], inl := [(205, Try.f205)], keep := [], join := [], hold := [], ptrs := [], maps := [], fuel := k }
noncomputable def fin_l_toOut : VV → Ms → Option TOut := finV [yOut] [true]
theorem r_l_toOut (k : Nat) (a0 : TOut) : runX (c_l_toOut k) fin_l_toOut k 205 [argV yOut a0] ms0 = l_toOut k a0 := by kernel_rfl
noncomputable def sp_l_toOut (k : Nat) : Spec := .imm yOut fun (a0 : TOut) => .body (l_toOut k a0) (outV [yOut] [true])
noncomputable def c_l_toOutS (k : Nat) : Cfg := { eqs := [], tab := [(38, (.slice 209 yOut)), (48, (.slice 151 yOut)), (151, yOut), (209, yOut)], spec := [(205, sp_l_toOut k)], mspec := [], inl := [(113, Try.f113)], keep := [(11300001003, [0, 3, 4])], join := [], hold := [], ptrs := [], maps := [], fuel := k }
noncomputable def fin_l_toOutS : VV → Ms → Option (List TOut) := finV [(.slice 151 yOut)] [true]
noncomputable def V0_l_toOutS (k n : Nat) (a0 : List TOut) (v1 : Int) (xs2 : List TOut) : Option (List TOut) := lpN (c_l_toOutS k) fin_l_toOutS n true 11300001003 (cd [1, 1, 0, 1, 0, 0] (bo Try.f113)) [.b 0, .s (cd [1, 1, 1] (bo Try.f113)), .fn Try.f113] ⟨⟨(mkT 23 0 [(0, one (.slc 209 yOut a0)), (3, one (.row 9000000 none none)), (4, one (.int .i64 v1))]), [(9000000, .row 151 yOut xs2 true)]⟩, 11300001000, 1, [(0, (mkT 0 0 []))]⟩
theorem t0_l_toOutS (k n : Nat) (a0 : List TOut) (v1 : Int) (xs2 : List TOut) : V0_l_toOutS k (n + 1) a0 v1 xs2 = b0_l_toOutS k (V0_l_toOutS k n) a0 v1 xs2 := by kernel_rfl
theorem e_l_toOutS (k : Nat) : ∀ n : Nat, V0_l_toOutS k n = l0_l_toOutS k n
  | 0 => (by funext a0 v1 xs2; rfl)
  | n + 1 => by
    obtain h0 := e_l_toOutS k n
    exact (by funext a0 v1 xs2; rw [t0_l_toOutS, h0] <;> rfl)
theorem u_l_toOutS (k : Nat) (a0 : List TOut) : runX (c_l_toOutS k) fin_l_toOutS k 113 [argV (.slice 209 yOut) a0] ms0 = g_l_toOutS k (V0_l_toOutS k k) a0 := by kernel_rfl
theorem r_l_toOutS (k : Nat) (a0 : List TOut) : runX (c_l_toOutS k) fin_l_toOutS k 113 [argV (.slice 209 yOut) a0] ms0 = l_toOutS k a0 := by rw [u_l_toOutS, show V0_l_toOutS k k = l0_l_toOutS k k from (e_l_toOutS k k)] <;> rfl
noncomputable def sp_l_toOutS (k : Nat) : Spec := .imm (.slice 209 yOut) fun (a0 : List TOut) => .body (l_toOutS k a0) (outV [(.slice 151 yOut)] [true])
noncomputable def c_l_toHall (k : Nat) : Cfg := { eqs := [], tab := [(32, (.slice 207 ySession)), (37, yRoom), (38, (.slice 209 yOut)), (40, yHall), (43, (.slice 149 ySession)), (47, yRoom1), (48, (.slice 151 yOut)), (50, yHall1)], spec := [(74, sp_l_toRoom k), (112, sp_l_toSessionS k), (113, sp_l_toOutS k)], mspec := [], inl := [(22, Try.f22)], keep := [], join := [], hold := [], ptrs := [], maps := [], fuel := k }
noncomputable def fin_l_toHall : VV → Ms → Option THall := finV [yHall1] [true, true, true, true, true]
theorem r_l_toHall (k : Nat) (a0 : THall) : runX (c_l_toHall k) fin_l_toHall k 22 [argV yHall a0] ms0 = l_toHall k a0 := by kernel_rfl
noncomputable def sp_l_toHall (k : Nat) : Spec := .imm yHall fun (a0 : THall) => .body (l_toHall k a0) (outV [yHall1] [true, true, true, true, true])
noncomputable def c_slices_Equal_impl_Session_impl_Session (k : Nat) : Cfg := { eqs := [149], tab := [(43, (.slice 149 ySession)), (149, ySession)], spec := [], mspec := [], inl := [(114, Try.f114)], keep := [(11400001004, [0, 1, 12, 13])], join := [], hold := [], ptrs := [], maps := [], fuel := k }
noncomputable def fin_slices_Equal_impl_Session_impl_Session : VV → Ms → Option Bool := finV [.bool] []
noncomputable def V0_slices_Equal_impl_Session_impl_Session (k n : Nat) (a0 : List TSession) (a1 : List TSession) (v1 : Int) : Option Bool := lpN (c_slices_Equal_impl_Session_impl_Session k) fin_slices_Equal_impl_Session_impl_Session n true 11400001004 (cd [1, 1, 0, 1, 0, 0] (bo Try.f114)) [.b 0, .s (cd [1, 1, 1] (bo Try.f114)), .fn Try.f114] ⟨⟨(mkT 26 0 [(0, one (.slc 149 ySession a0)), (1, one (.slc 149 ySession a1)), (12, one (.int .i64 (a0.length : Int))), (13, one (.int .i64 v1))]), []⟩, 11400001000, 1, [(0, (mkT 0 0 []))]⟩
theorem t0_slices_Equal_impl_Session_impl_Session (k n : Nat) (a0 : List TSession) (a1 : List TSession) (v1 : Int) : V0_slices_Equal_impl_Session_impl_Session k (n + 1) a0 a1 v1 = b0_slices_Equal_impl_Session_impl_Session k (V0_slices_Equal_impl_Session_impl_Session k n) a0 a1 v1 := by kernel_rfl
theorem e_slices_Equal_impl_Session_impl_Session (k : Nat) : ∀ n : Nat, V0_slices_Equal_impl_Session_impl_Session k n = l0_slices_Equal_impl_Session_impl_Session k n
  | 0 => (by funext a0 a1 v1; rfl)
  | n + 1 => by
    obtain h0 := e_slices_Equal_impl_Session_impl_Session k n
    exact (by funext a0 a1 v1; rw [t0_slices_Equal_impl_Session_impl_Session, h0] <;> rfl)
theorem u_slices_Equal_impl_Session_impl_Session (k : Nat) (a0 : List TSession) (a1 : List TSession) : runX (c_slices_Equal_impl_Session_impl_Session k) fin_slices_Equal_impl_Session_impl_Session k 114 [argV (.slice 149 ySession) a0, argV (.slice 149 ySession) a1] ms0 = g_slices_Equal_impl_Session_impl_Session k (V0_slices_Equal_impl_Session_impl_Session k k) a0 a1 := by kernel_rfl
theorem r_slices_Equal_impl_Session_impl_Session (k : Nat) (a0 : List TSession) (a1 : List TSession) : runX (c_slices_Equal_impl_Session_impl_Session k) fin_slices_Equal_impl_Session_impl_Session k 114 [argV (.slice 149 ySession) a0, argV (.slice 149 ySession) a1] ms0 = slices_Equal_impl_Session_impl_Session k a0 a1 := by rw [u_slices_Equal_impl_Session_impl_Session, show V0_slices_Equal_impl_Session_impl_Session k k = l0_slices_Equal_impl_Session_impl_Session k k from (e_slices_Equal_impl_Session_impl_Session k k)] <;> rfl
noncomputable def sp_slices_Equal_impl_Session_impl_Session (k : Nat) : Spec := .imm (.slice 149 ySession) fun (a0 : List TSession) => .imm (.slice 149 ySession) fun (a1 : List TSession) => .body (slices_Equal_impl_Session_impl_Session k a0 a1) (outV [.bool] [])
noncomputable def c_slices_Equal_impl_Item_impl_Item (k : Nat) : Cfg := { eqs := [129], tab := [(78, (.slice 129 yItem)), (129, yItem)], spec := [], mspec := [], inl := [(207, Try.f207)], keep := [(20700001004, [0, 1, 12, 13])], join := [], hold := [], ptrs := [], maps := [], fuel := k }
noncomputable def fin_slices_Equal_impl_Item_impl_Item : VV → Ms → Option Bool := finV [.bool] []
noncomputable def V0_slices_Equal_impl_Item_impl_Item (k n : Nat) (a0 : List TItem) (a1 : List TItem) (v1 : Int) : Option Bool := lpN (c_slices_Equal_impl_Item_impl_Item k) fin_slices_Equal_impl_Item_impl_Item n true 20700001004 (cd [1, 1, 0, 1, 0, 0] (bo Try.f207)) [.b 0, .s (cd [1, 1, 1] (bo Try.f207)), .fn Try.f207] ⟨⟨(mkT 26 0 [(0, one (.slc 129 yItem a0)), (1, one (.slc 129 yItem a1)), (12, one (.int .i64 (a0.length : Int))), (13, one (.int .i64 v1))]), []⟩, 20700001000, 1, [(0, (mkT 0 0 []))]⟩
theorem t0_slices_Equal_impl_Item_impl_Item (k n : Nat) (a0 : List TItem) (a1 : List TItem) (v1 : Int) : V0_slices_Equal_impl_Item_impl_Item k (n + 1) a0 a1 v1 = b0_slices_Equal_impl_Item_impl_Item k (V0_slices_Equal_impl_Item_impl_Item k n) a0 a1 v1 := by kernel_rfl
theorem e_slices_Equal_impl_Item_impl_Item (k : Nat) : ∀ n : Nat, V0_slices_Equal_impl_Item_impl_Item k n = l0_slices_Equal_impl_Item_impl_Item k n
  | 0 => (by funext a0 a1 v1; rfl)
  | n + 1 => by
    obtain h0 := e_slices_Equal_impl_Item_impl_Item k n
    exact (by funext a0 a1 v1; rw [t0_slices_Equal_impl_Item_impl_Item, h0] <;> rfl)
theorem u_slices_Equal_impl_Item_impl_Item (k : Nat) (a0 : List TItem) (a1 : List TItem) : runX (c_slices_Equal_impl_Item_impl_Item k) fin_slices_Equal_impl_Item_impl_Item k 207 [argV (.slice 129 yItem) a0, argV (.slice 129 yItem) a1] ms0 = g_slices_Equal_impl_Item_impl_Item k (V0_slices_Equal_impl_Item_impl_Item k k) a0 a1 := by kernel_rfl
theorem r_slices_Equal_impl_Item_impl_Item (k : Nat) (a0 : List TItem) (a1 : List TItem) : runX (c_slices_Equal_impl_Item_impl_Item k) fin_slices_Equal_impl_Item_impl_Item k 207 [argV (.slice 129 yItem) a0, argV (.slice 129 yItem) a1] ms0 = slices_Equal_impl_Item_impl_Item k a0 a1 := by rw [u_slices_Equal_impl_Item_impl_Item, show V0_slices_Equal_impl_Item_impl_Item k k = l0_slices_Equal_impl_Item_impl_Item k k from (e_slices_Equal_impl_Item_impl_Item k k)] <;> rfl
noncomputable def sp_slices_Equal_impl_Item_impl_Item (k : Nat) : Spec := .imm (.slice 129 yItem) fun (a0 : List TItem) => .imm (.slice 129 yItem) fun (a1 : List TItem) => .body (slices_Equal_impl_Item_impl_Item k a0 a1) (outV [.bool] [])
noncomputable def c_slices_Equal_bool_bool (k : Nat) : Cfg := { eqs := [], tab := [(4, .bool), (35, (.slice 4 .bool))], spec := [], mspec := [], inl := [(210, Try.f210)], keep := [(21000001004, [0, 1, 12, 13])], join := [], hold := [], ptrs := [], maps := [], fuel := k }
noncomputable def fin_slices_Equal_bool_bool : VV → Ms → Option Bool := finV [.bool] []
noncomputable def V0_slices_Equal_bool_bool (k n : Nat) (a0 : List Bool) (a1 : List Bool) (v1 : Int) : Option Bool := lpN (c_slices_Equal_bool_bool k) fin_slices_Equal_bool_bool n true 21000001004 (cd [1, 1, 0, 1, 0, 0] (bo Try.f210)) [.b 0, .s (cd [1, 1, 1] (bo Try.f210)), .fn Try.f210] ⟨⟨(mkT 26 0 [(0, one (.slc 4 .bool a0)), (1, one (.slc 4 .bool a1)), (12, one (.int .i64 (a0.length : Int))), (13, one (.int .i64 v1))]), []⟩, 21000001000, 1, [(0, (mkT 0 0 []))]⟩
theorem t0_slices_Equal_bool_bool (k n : Nat) (a0 : List Bool) (a1 : List Bool) (v1 : Int) : V0_slices_Equal_bool_bool k (n + 1) a0 a1 v1 = b0_slices_Equal_bool_bool k (V0_slices_Equal_bool_bool k n) a0 a1 v1 := by kernel_rfl
theorem e_slices_Equal_bool_bool (k : Nat) : ∀ n : Nat, V0_slices_Equal_bool_bool k n = l0_slices_Equal_bool_bool k n
  | 0 => (by funext a0 a1 v1; rfl)
  | n + 1 => by
    obtain h0 := e_slices_Equal_bool_bool k n
    exact (by funext a0 a1 v1; rw [t0_slices_Equal_bool_bool, h0] <;> rfl)
theorem u_slices_Equal_bool_bool (k : Nat) (a0 : List Bool) (a1 : List Bool) : runX (c_slices_Equal_bool_bool k) fin_slices_Equal_bool_bool k 210 [argV (.slice 4 .bool) a0, argV (.slice 4 .bool) a1] ms0 = g_slices_Equal_bool_bool k (V0_slices_Equal_bool_bool k k) a0 a1 := by kernel_rfl
theorem r_slices_Equal_bool_bool (k : Nat) (a0 : List Bool) (a1 : List Bool) : runX (c_slices_Equal_bool_bool k) fin_slices_Equal_bool_bool k 210 [argV (.slice 4 .bool) a0, argV (.slice 4 .bool) a1] ms0 = slices_Equal_bool_bool k a0 a1 := by rw [u_slices_Equal_bool_bool, show V0_slices_Equal_bool_bool k k = l0_slices_Equal_bool_bool k k from (e_slices_Equal_bool_bool k k)] <;> rfl
noncomputable def sp_slices_Equal_bool_bool (k : Nat) : Spec := .imm (.slice 4 .bool) fun (a0 : List Bool) => .imm (.slice 4 .bool) fun (a1 : List Bool) => .body (slices_Equal_bool_bool k a0 a1) (outV [.bool] [])
noncomputable def c_i_sameRoom (k : Nat) : Cfg := { eqs := [], tab := [(3, (.int .i64)), (9, .str), (22, (.slice 3 (.int .i64))), (24, yEvent), (35, (.slice 4 .bool)), (44, (.slice 24 yEvent)), (45, (.slice 78 (.slice 129 yItem))), (47, yRoom1), (78, (.slice 129 yItem))], spec := [(207, sp_slices_Equal_impl_Item_impl_Item k), (210, sp_slices_Equal_bool_bool k), (211, sp_slices_Equal_int_int k)], mspec := [], inl := [(115, Try.f115), (198, Try.f198), (206, Try.f206), (208, Try.f208), (209, Try.f209)], keep := [(20800002004, [1, 2, 15, 16, 17]), (20900003004, [1, 2, 15, 16, 17])], join := [], hold := [], ptrs := [], maps := [], fuel := k }
noncomputable def fin_i_sameRoom : VV → Ms → Option Bool := finV [.bool] []
noncomputable def V1_i_sameRoom (k n : Nat) (a1 : TRoom) (a0 : TRoom) (v2 : Int) : Option Bool := lpN (c_i_sameRoom k) fin_i_sameRoom n true 20900003004 (cd [1, 1, 0, 1, 0, 0] (bo Try.f209)) [.b 0, .s (cd [1, 1, 1] (bo Try.f209)), .fn Try.f209, .op (rg (cd [1, 1, 0] (bo Try.f115))) ((rg (cd [1, 1, 0] (bo Try.f115))).drop 12) 12 (some 17), .s (cd [1, 1, 1] (bo Try.f115)), .fn Try.f115] ⟨⟨(mkT 32 0 [(1, one (.slc 78 (.slice 129 yItem) a1.2.1)), (2, one (.fn 206 [])), (15, one (.slc 78 (.slice 129 yItem) a0.2.1)), (16, one (.int .i64 (a0.2.1.length : Int))), (17, one (.int .i64 v2))]), [(9000000, .box [.slc 24 yEvent a0.1, .slc 78 (.slice 129 yItem) a0.2.1, .slc 4 .bool a0.2.2.1]), (9000001, .box [.slc 24 yEvent a1.1, .slc 78 (.slice 129 yItem) a1.2.1, .slc 4 .bool a1.2.2.1])]⟩, 20900003000, 3, [(11500001000, (mkT 26 0 [(0, .v ⟨true, [.slc 24 yEvent a0.1, .slc 78 (.slice 129 yItem) a0.2.1, .slc 4 .bool a0.2.2.1]⟩), (1, .v ⟨true, [.slc 24 yEvent a1.1, .slc 78 (.slice 129 yItem) a1.2.1, .slc 4 .bool a1.2.2.1]⟩), (2, one (.ptr 9000000 0)), (3, one (.ptr 9000001 0)), (4, one (.bool false)), (5, one (.fn 206 [])), (6, one (.ptr 9000000 0)), (7, one (.slc 24 yEvent a0.1)), (8, one (.ptr 9000001 0)), (9, one (.slc 24 yEvent a1.1)), (10, one (.bool true)), (11, one (.bool true)), (12, one (.ptr 9000000 1)), (13, one (.slc 78 (.slice 129 yItem) a0.2.1)), (14, one (.ptr 9000001 1)), (15, one (.slc 78 (.slice 129 yItem) a1.2.1)), (16, one (.fn 206 []))])), (0, (mkT 0 0 []))]⟩
noncomputable def V0_i_sameRoom (k n : Nat) (a1 : TRoom) (a0 : TRoom) (v1 : Int) : Option Bool := lpN (c_i_sameRoom k) fin_i_sameRoom n true 20800002004 (cd [1, 1, 0, 1, 0, 0] (bo Try.f208)) [.b 0, .s (cd [1, 1, 1] (bo Try.f208)), .fn Try.f208, .op (rg (cd [1, 1, 0] (bo Try.f115))) ((rg (cd [1, 1, 0] (bo Try.f115))).drop 5) 5 (some 10), .s (cd [1, 1, 1] (bo Try.f115)), .fn Try.f115] ⟨⟨(mkT 32 0 [(1, one (.slc 24 yEvent a1.1)), (2, one (.fn 198 [])), (15, one (.slc 24 yEvent a0.1)), (16, one (.int .i64 (a0.1.length : Int))), (17, one (.int .i64 v1))]), [(9000000, .box [.slc 24 yEvent a0.1, .slc 78 (.slice 129 yItem) a0.2.1, .slc 4 .bool a0.2.2.1]), (9000001, .box [.slc 24 yEvent a1.1, .slc 78 (.slice 129 yItem) a1.2.1, .slc 4 .bool a1.2.2.1])]⟩, 20800002000, 2, [(11500001000, (mkT 26 0 [(0, .v ⟨true, [.slc 24 yEvent a0.1, .slc 78 (.slice 129 yItem) a0.2.1, .slc 4 .bool a0.2.2.1]⟩), (1, .v ⟨true, [.slc 24 yEvent a1.1, .slc 78 (.slice 129 yItem) a1.2.1, .slc 4 .bool a1.2.2.1]⟩), (2, one (.ptr 9000000 0)), (3, one (.ptr 9000001 0)), (4, one (.bool false)), (5, one (.fn 206 [])), (6, one (.ptr 9000000 0)), (7, one (.slc 24 yEvent a0.1)), (8, one (.ptr 9000001 0)), (9, one (.slc 24 yEvent a1.1))])), (0, (mkT 0 0 []))]⟩
theorem t1_i_sameRoom (k n : Nat) (a1 : TRoom) (a0 : TRoom) (v2 : Int) : V1_i_sameRoom k (n + 1) a1 a0 v2 = b1_i_sameRoom k (V1_i_sameRoom k n) a1 a0 v2 := by kernel_rfl
theorem t0_i_sameRoom (k n : Nat) (a1 : TRoom) (a0 : TRoom) (v1 : Int) : V0_i_sameRoom k (n + 1) a1 a0 v1 = b0_i_sameRoom k (V0_i_sameRoom k n) (V1_i_sameRoom k n) a1 a0 v1 := by kernel_rfl
theorem e_i_sameRoom (k : Nat) : ∀ n : Nat, V1_i_sameRoom k n = l1_i_sameRoom k n ∧ V0_i_sameRoom k n = l0_i_sameRoom k n
  | 0 => ⟨(by funext a1 a0 v2; rfl), (by funext a1 a0 v1; rfl)⟩
  | n + 1 => by
    obtain ⟨h1, h0⟩ := e_i_sameRoom k n
    exact ⟨(by funext a1 a0 v2; rw [t1_i_sameRoom, h1] <;> rfl), (by funext a1 a0 v1; rw [t0_i_sameRoom, h0, h1] <;> rfl)⟩
theorem u_i_sameRoom (k : Nat) (a0 : TRoom) (a1 : TRoom) : runX (c_i_sameRoom k) fin_i_sameRoom k 115 [argV yRoom1 a0, argV yRoom1 a1] ms0 = g_i_sameRoom k (V0_i_sameRoom k k) a0 a1 := by kernel_rfl
theorem r_i_sameRoom (k : Nat) (a0 : TRoom) (a1 : TRoom) : runX (c_i_sameRoom k) fin_i_sameRoom k 115 [argV yRoom1 a0, argV yRoom1 a1] ms0 = i_sameRoom k a0 a1 := by rw [u_i_sameRoom, show V0_i_sameRoom k k = l0_i_sameRoom k k from (e_i_sameRoom k k).2] <;> rfl
noncomputable def sp_i_sameRoom (k : Nat) : Spec := .imm yRoom1 fun (a0 : TRoom) => .imm yRoom1 fun (a1 : TRoom) => .body (i_sameRoom k a0 a1) (outV [.bool] [])
noncomputable def c_i_SameHall (k : Nat) : Cfg := { eqs := [], tab := [(3, (.int .i64)), (22, (.slice 3 (.int .i64))), (43, (.slice 149 ySession)), (47, yRoom1), (48, (.slice 151 yOut)), (50, yHall1), (151, yOut)], spec := [(114, sp_slices_Equal_impl_Session_impl_Session k), (115, sp_i_sameRoom k), (211, sp_slices_Equal_int_int k)], mspec := [], inl := [(23, Try.f23), (116, Try.f116), (117, Try.f117)], keep := [(11600002004, [1, 2, 15, 16, 17])], join := [], hold := [], ptrs := [], maps := [], fuel := k }
noncomputable def fin_i_SameHall : VV → Ms → Option Bool := finV [.bool] []
noncomputable def V0_i_SameHall (k n : Nat) (a1 : THall) (a0 : THall) (v1 : Int) (r1 : Bool) (r2 : Bool) : Option Bool := lpN (c_i_SameHall k) fin_i_SameHall n true 11600002004 (cd [1, 1, 0, 1, 0, 0] (bo Try.f116)) [.b 0, .s (cd [1, 1, 1] (bo Try.f116)), .fn Try.f116, .op (rg (cd [1, 0] (bo Try.f23))) ((rg (cd [1, 0] (bo Try.f23))).drop 18) 18 (some 22), .s (cd [1, 1] (bo Try.f23)), .fn Try.f23] ⟨⟨(mkT 32 0 [(1, one (.slc 151 yOut a1.2.2.1)), (2, one (.fn 117 [])), (15, one (.slc 151 yOut a0.2.2.1)), (16, one (.int .i64 (a0.2.2.1.length : Int))), (17, one (.int .i64 v1))]), [(9000000, .box [.slc 149 ySession a0.1, .slc 24 yEvent a0.2.1.1, .slc 78 (.slice 129 yItem) a0.2.1.2.1, .slc 4 .bool a0.2.1.2.2.1, .slc 151 yOut a0.2.2.1]), (9000001, .box [.slc 149 ySession a1.1, .slc 24 yEvent a1.2.1.1, .slc 78 (.slice 129 yItem) a1.2.1.2.1, .slc 4 .bool a1.2.1.2.2.1, .slc 151 yOut a1.2.2.1])]⟩, 11600002000, 2, [(2300001000, (mkT 24 0 [(0, .v ⟨true, [.slc 149 ySession a0.1, .slc 24 yEvent a0.2.1.1, .slc 78 (.slice 129 yItem) a0.2.1.2.1, .slc 4 .bool a0.2.1.2.2.1, .slc 151 yOut a0.2.2.1]⟩), (1, .v ⟨true, [.slc 149 ySession a1.1, .slc 24 yEvent a1.2.1.1, .slc 78 (.slice 129 yItem) a1.2.1.2.1, .slc 4 .bool a1.2.1.2.2.1, .slc 151 yOut a1.2.2.1]⟩), (2, one (.ptr 9000000 0)), (3, one (.ptr 9000001 0)), (4, one (.bool false)), (5, one (.ptr 9000000 0)), (6, one (.slc 149 ySession a0.1)), (7, one (.ptr 9000001 0)), (8, one (.slc 149 ySession a1.1)), (9, one (.bool r1)), (10, one (.bool true)), (11, one (.ptr 9000000 1)), (12, .v ⟨true, [.slc 24 yEvent a0.2.1.1, .slc 78 (.slice 129 yItem) a0.2.1.2.1, .slc 4 .bool a0.2.1.2.2.1]⟩), (13, one (.ptr 9000001 1)), (14, .v ⟨true, [.slc 24 yEvent a1.2.1.1, .slc 78 (.slice 129 yItem) a1.2.1.2.1, .slc 4 .bool a1.2.1.2.2.1]⟩), (15, one (.bool r2)), (16, one (.bool r2)), (17, one (.bool true)), (18, one (.ptr 9000000 4)), (19, one (.slc 151 yOut a0.2.2.1)), (20, one (.ptr 9000001 4)), (21, one (.slc 151 yOut a1.2.2.1))])), (0, (mkT 0 0 []))]⟩
theorem t0_i_SameHall (k n : Nat) (a1 : THall) (a0 : THall) (v1 : Int) (r1 : Bool) (r2 : Bool) : V0_i_SameHall k (n + 1) a1 a0 v1 r1 r2 = b0_i_SameHall k (V0_i_SameHall k n) a1 a0 v1 r1 r2 := by kernel_rfl
theorem e_i_SameHall (k : Nat) : ∀ n : Nat, V0_i_SameHall k n = l0_i_SameHall k n
  | 0 => (by funext a1 a0 v1 r1 r2; rfl)
  | n + 1 => by
    obtain h0 := e_i_SameHall k n
    exact (by funext a1 a0 v1 r1 r2; rw [t0_i_SameHall, h0] <;> rfl)
theorem u_i_SameHall (k : Nat) (a0 : THall) (a1 : THall) : runX (c_i_SameHall k) fin_i_SameHall k 23 [argV yHall1 a0, argV yHall1 a1] ms0 = g_i_SameHall k (V0_i_SameHall k k) a0 a1 := by kernel_rfl
theorem r_i_SameHall (k : Nat) (a0 : THall) (a1 : THall) : runX (c_i_SameHall k) fin_i_SameHall k 23 [argV yHall1 a0, argV yHall1 a1] ms0 = i_SameHall k a0 a1 := by rw [u_i_SameHall, show V0_i_SameHall k k = l0_i_SameHall k k from (e_i_SameHall k k)] <;> rfl
noncomputable def sp_i_SameHall (k : Nat) : Spec := .imm yHall1 fun (a0 : THall) => .imm yHall1 fun (a1 : THall) => .body (i_SameHall k a0 a1) (outV [.bool] [])
noncomputable def c_l_eqItem (k : Nat) : Cfg := { eqs := [], tab := [(3, (.int .i64)), (129, yItem)], spec := [], mspec := [], inl := [(148, Try.f148)], keep := [], join := [], hold := [], ptrs := [], maps := [], fuel := k }
noncomputable def fin_l_eqItem : VV → Ms → Option Bool := finV [.bool] []
theorem r_l_eqItem (k : Nat) (a0 : TItem) (a1 : TItem) : runX (c_l_eqItem k) fin_l_eqItem k 148 [argV yItem a0, argV yItem a1] ms0 = l_eqItem k a0 a1 := by kernel_rfl
noncomputable def sp_l_eqItem (k : Nat) : Spec := .imm yItem fun (a0 : TItem) => .imm yItem fun (a1 : TItem) => .body (l_eqItem k a0 a1) (outV [.bool] [])
noncomputable def c_l_eqItemS (k : Nat) : Cfg := { eqs := [], tab := [(78, (.slice 129 yItem)), (129, yItem)], spec := [(148, sp_l_eqItem k)], mspec := [], inl := [(50, Try.f50)], keep := [(5000001004, [0, 1, 5])], join := [], hold := [], ptrs := [], maps := [], fuel := k }
noncomputable def fin_l_eqItemS : VV → Ms → Option Bool := finV [.bool] []
noncomputable def V0_l_eqItemS (k n : Nat) (a0 : List TItem) (a1 : List TItem) (v1 : Int) : Option Bool := lpN (c_l_eqItemS k) fin_l_eqItemS n true 5000001004 (cd [1, 1, 0, 1, 0, 0] (bo Try.f50)) [.b 0, .s (cd [1, 1, 1] (bo Try.f50)), .fn Try.f50] ⟨⟨(mkT 27 0 [(0, one (.slc 129 yItem a0)), (1, one (.slc 129 yItem a1)), (5, one (.int .i64 v1))]), []⟩, 5000001000, 1, [(0, (mkT 0 0 []))]⟩
theorem t0_l_eqItemS (k n : Nat) (a0 : List TItem) (a1 : List TItem) (v1 : Int) : V0_l_eqItemS k (n + 1) a0 a1 v1 = b0_l_eqItemS k (V0_l_eqItemS k n) a0 a1 v1 := by kernel_rfl
theorem e_l_eqItemS (k : Nat) : ∀ n : Nat, V0_l_eqItemS k n = l0_l_eqItemS k n
  | 0 => (by funext a0 a1 v1; rfl)
  | n + 1 => by
    obtain h0 := e_l_eqItemS k n
    exact (by funext a0 a1 v1; rw [t0_l_eqItemS, h0] <;> rfl)
theorem u_l_eqItemS (k : Nat) (a0 : List TItem) (a1 : List TItem) : runX (c_l_eqItemS k) fin_l_eqItemS k 50 [argV (.slice 129 yItem) a0, argV (.slice 129 yItem) a1] ms0 = g_l_eqItemS k (V0_l_eqItemS k k) a0 a1 := by kernel_rfl
theorem r_l_eqItemS (k : Nat) (a0 : List TItem) (a1 : List TItem) : runX (c_l_eqItemS k) fin_l_eqItemS k 50 [argV (.slice 129 yItem) a0, argV (.slice 129 yItem) a1] ms0 = l_eqItemS k a0 a1 := by rw [u_l_eqItemS, show V0_l_eqItemS k k = l0_l_eqItemS k k from (e_l_eqItemS k k)] <;> rfl
noncomputable def sp_l_eqItemS (k : Nat) : Spec := .imm (.slice 129 yItem) fun (a0 : List TItem) => .imm (.slice 129 yItem) fun (a1 : List TItem) => .body (l_eqItemS k a0 a1) (outV [.bool] [])
noncomputable def c_l_eqItemSS (k : Nat) : Cfg := { eqs := [], tab := [(45, (.slice 78 (.slice 129 yItem))), (78, (.slice 129 yItem))], spec := [(50, sp_l_eqItemS k)], mspec := [], inl := [(51, Try.f51)], keep := [(5100001004, [0, 1, 5])], join := [], hold := [], ptrs := [], maps := [], fuel := k }
noncomputable def fin_l_eqItemSS : VV → Ms → Option Bool := finV [.bool] []
noncomputable def V0_l_eqItemSS (k n : Nat) (a0 : List (List TItem)) (a1 : List (List TItem)) (v1 : Int) : Option Bool := lpN (c_l_eqItemSS k) fin_l_eqItemSS n true 5100001004 (cd [1, 1, 0, 1, 0, 0] (bo Try.f51)) [.b 0, .s (cd [1, 1, 1] (bo Try.f51)), .fn Try.f51] ⟨⟨(mkT 27 0 [(0, one (.slc 78 (.slice 129 yItem) a0)), (1, one (.slc 78 (.slice 129 yItem) a1)), (5, one (.int .i64 v1))]), []⟩, 5100001000, 1, [(0, (mkT 0 0 []))]⟩
theorem t0_l_eqItemSS (k n : Nat) (a0 : List (List TItem)) (a1 : List (List TItem)) (v1 : Int) : V0_l_eqItemSS k (n + 1) a0 a1 v1 = b0_l_eqItemSS k (V0_l_eqItemSS k n) a0 a1 v1 := by kernel_rfl
theorem e_l_eqItemSS (k : Nat) : ∀ n : Nat, V0_l_eqItemSS k n = l0_l_eqItemSS k n
  | 0 => (by funext a0 a1 v1; rfl)
  | n + 1 => by
    obtain h0 := e_l_eqItemSS k n
    exact (by funext a0 a1 v1; rw [t0_l_eqItemSS, h0] <;> rfl)
theorem u_l_eqItemSS (k : Nat) (a0 : List (List TItem)) (a1 : List (List TItem)) : runX (c_l_eqItemSS k) fin_l_eqItemSS k 51 [argV (.slice 78 (.slice 129 yItem)) a0, argV (.slice 78 (.slice 129 yItem)) a1] ms0 = g_l_eqItemSS k (V0_l_eqItemSS k k) a0 a1 := by kernel_rfl
theorem r_l_eqItemSS (k : Nat) (a0 : List (List TItem)) (a1 : List (List TItem)) : runX (c_l_eqItemSS k) fin_l_eqItemSS k 51 [argV (.slice 78 (.slice 129 yItem)) a0, argV (.slice 78 (.slice 129 yItem)) a1] ms0 = l_eqItemSS k a0 a1 := by rw [u_l_eqItemSS, show V0_l_eqItemSS k k = l0_l_eqItemSS k k from (e_l_eqItemSS k k)] <;> rfl
noncomputable def sp_l_eqItemSS (k : Nat) : Spec := .imm (.slice 78 (.slice 129 yItem)) fun (a0 : List (List TItem)) => .imm (.slice 78 (.slice 129 yItem)) fun (a1 : List (List TItem)) => .body (l_eqItemSS k a0 a1) (outV [.bool] [])
noncomputable def c_l_eqEventS (k : Nat) : Cfg := { eqs := [], tab := [(24, yEvent), (44, (.slice 24 yEvent))], spec := [(69, sp_l_eqEvent k)], mspec := [], inl := [(68, Try.f68)], keep := [(6800001004, [0, 1, 5])], join := [], hold := [], ptrs := [], maps := [], fuel := k }
noncomputable def fin_l_eqEventS : VV → Ms → Option Bool := finV [.bool] []
noncomputable def V0_l_eqEventS (k n : Nat) (a0 : List TEvent) (a1 : List TEvent) (v1 : Int) : Option Bool := lpN (c_l_eqEventS k) fin_l_eqEventS n true 6800001004 (cd [1, 1, 0, 1, 0, 0] (bo Try.f68)) [.b 0, .s (cd [1, 1, 1] (bo Try.f68)), .fn Try.f68] ⟨⟨(mkT 27 0 [(0, one (.slc 24 yEvent a0)), (1, one (.slc 24 yEvent a1)), (5, one (.int .i64 v1))]), []⟩, 6800001000, 1, [(0, (mkT 0 0 []))]⟩
theorem t0_l_eqEventS (k n : Nat) (a0 : List TEvent) (a1 : List TEvent) (v1 : Int) : V0_l_eqEventS k (n + 1) a0 a1 v1 = b0_l_eqEventS k (V0_l_eqEventS k n) a0 a1 v1 := by kernel_rfl
theorem e_l_eqEventS (k : Nat) : ∀ n : Nat, V0_l_eqEventS k n = l0_l_eqEventS k n
  | 0 => (by funext a0 a1 v1; rfl)
  | n + 1 => by
    obtain h0 := e_l_eqEventS k n
    exact (by funext a0 a1 v1; rw [t0_l_eqEventS, h0] <;> rfl)
theorem u_l_eqEventS (k : Nat) (a0 : List TEvent) (a1 : List TEvent) : runX (c_l_eqEventS k) fin_l_eqEventS k 68 [argV (.slice 24 yEvent) a0, argV (.slice 24 yEvent) a1] ms0 = g_l_eqEventS k (V0_l_eqEventS k k) a0 a1 := by kernel_rfl
theorem r_l_eqEventS (k : Nat) (a0 : List TEvent) (a1 : List TEvent) : runX (c_l_eqEventS k) fin_l_eqEventS k 68 [argV (.slice 24 yEvent) a0, argV (.slice 24 yEvent) a1] ms0 = l_eqEventS k a0 a1 := by rw [u_l_eqEventS, show V0_l_eqEventS k k = l0_l_eqEventS k k from (e_l_eqEventS k k)] <;> rfl
noncomputable def sp_l_eqEventS (k : Nat) : Spec := .imm (.slice 24 yEvent) fun (a0 : List TEvent) => .imm (.slice 24 yEvent) fun (a1 : List TEvent) => .body (l_eqEventS k a0 a1) (outV [.bool] [])
noncomputable def c_l_eqBoolS (k : Nat) : Cfg := { eqs := [], tab := [(4, .bool), (35, (.slice 4 .bool))], spec := [], mspec := [], inl := [(163, Try.f163)], keep := [(16300001004, [0, 1, 5])], join := [], hold := [], ptrs := [], maps := [], fuel := k }
noncomputable def fin_l_eqBoolS : VV → Ms → Option Bool := finV [.bool] []
noncomputable def V0_l_eqBoolS (k n : Nat) (a0 : List Bool) (a1 : List Bool) (v1 : Int) : Option Bool := lpN (c_l_eqBoolS k) fin_l_eqBoolS n true 16300001004 (cd [1, 1, 0, 1, 0, 0] (bo Try.f163)) [.b 0, .s (cd [1, 1, 1] (bo Try.f163)), .fn Try.f163] ⟨⟨(mkT 26 0 [(0, one (.slc 4 .bool a0)), (1, one (.slc 4 .bool a1)), (5, one (.int .i64 v1))]), []⟩, 16300001000, 1, [(0, (mkT 0 0 []))]⟩
theorem t0_l_eqBoolS (k n : Nat) (a0 : List Bool) (a1 : List Bool) (v1 : Int) : V0_l_eqBoolS k (n + 1) a0 a1 v1 = b0_l_eqBoolS k (V0_l_eqBoolS k n) a0 a1 v1 := by kernel_rfl
theorem e_l_eqBoolS (k : Nat) : ∀ n : Nat, V0_l_eqBoolS k n = l0_l_eqBoolS k n
  | 0 => (by funext a0 a1 v1; rfl)
  | n + 1 => by
    obtain h0 := e_l_eqBoolS k n
    exact (by funext a0 a1 v1; rw [t0_l_eqBoolS, h0] <;> rfl)
theorem u_l_eqBoolS (k : Nat) (a0 : List Bool) (a1 : List Bool) : runX (c_l_eqBoolS k) fin_l_eqBoolS k 163 [argV (.slice 4 .bool) a0, argV (.slice 4 .bool) a1] ms0 = g_l_eqBoolS k (V0_l_eqBoolS k k) a0 a1 := by kernel_rfl
theorem r_l_eqBoolS (k : Nat) (a0 : List Bool) (a1 : List Bool) : runX (c_l_eqBoolS k) fin_l_eqBoolS k 163 [argV (.slice 4 .bool) a0, argV (.slice 4 .bool) a1] ms0 = l_eqBoolS k a0 a1 := by rw [u_l_eqBoolS, show V0_l_eqBoolS k k = l0_l_eqBoolS k k from (e_l_eqBoolS k k)] <;> rfl
noncomputable def sp_l_eqBoolS (k : Nat) : Spec := .imm (.slice 4 .bool) fun (a0 : List Bool) => .imm (.slice 4 .bool) fun (a1 : List Bool) => .body (l_eqBoolS k a0 a1) (outV [.bool] [])
noncomputable def c_l_eqRoom (k : Nat) : Cfg := { eqs := [], tab := [(35, (.slice 4 .bool)), (44, (.slice 24 yEvent)), (45, (.slice 78 (.slice 129 yItem))), (47, yRoom1)], spec := [(51, sp_l_eqItemSS k), (68, sp_l_eqEventS k), (163, sp_l_eqBoolS k)], mspec := [], inl := [(76, Try.f76)], keep := [], join := [], hold := [], ptrs := [], maps := [], fuel := k }
noncomputable def fin_l_eqRoom : VV → Ms → Option Bool := finV [.bool] []
theorem r_l_eqRoom (k : Nat) (a0 : TRoom) (a1 : TRoom) : runX (c_l_eqRoom k) fin_l_eqRoom k 76 [argV yRoom1 a0, argV yRoom1 a1] ms0 = l_eqRoom k a0 a1 := by kernel_rfl
noncomputable def sp_l_eqRoom (k : Nat) : Spec := .imm yRoom1 fun (a0 : TRoom) => .imm yRoom1 fun (a1 : TRoom) => .body (l_eqRoom k a0 a1) (outV [.bool] [])
noncomputable def c_l_eqSession (k : Nat) : Cfg := { eqs := [], tab := [(3, (.int .i64)), (9, .str), (149, ySession)], spec := [], mspec := [], inl := [(212, Try.f212)], keep := [], join := [], hold := [], ptrs := [], maps := [], fuel := k }
noncomputable def fin_l_eqSession : VV → Ms → Option Bool := finV [.bool] []
theorem r_l_eqSession (k : Nat) (a0 : TSession) (a1 : TSession) : runX (c_l_eqSession k) fin_l_eqSession k 212 [argV ySession a0, argV ySession a1] ms0 = l_eqSession k a0 a1 := by kernel_rfl
noncomputable def sp_l_eqSession (k : Nat) : Spec := .imm ySession fun (a0 : TSession) => .imm ySession fun (a1 : TSession) => .body (l_eqSession k a0 a1) (outV [.bool] [])
noncomputable def c_l_eqSessionS (k : Nat) : Cfg := { eqs := [], tab := [(43, (.slice 149 ySession)), (149, ySession)], spec := [(212, sp_l_eqSession k)], mspec := [], inl := [(118, Try.f118)], keep := [(11800001004, [0, 1, 5])], join := [], hold := [], ptrs := [], maps := [], fuel := k }
noncomputable def fin_l_eqSessionS : VV → Ms → Option Bool := finV [.bool] []
noncomputable def V0_l_eqSessionS (k n : Nat) (a0 : List TSession) (a1 : List TSession) (v1 : Int) : Option Bool := lpN (c_l_eqSessionS k) fin_l_eqSessionS n true 11800001004 (cd [1, 1, 0, 1, 0, 0] (bo Try.f118)) [.b 0, .s (cd [1, 1, 1] (bo Try.f118)), .fn Try.f118] ⟨⟨(mkT 27 0 [(0, one (.slc 149 ySession a0)), (1, one (.slc 149 ySession a1)), (5, one (.int .i64 v1))]), []⟩, 11800001000, 1, [(0, (mkT 0 0 []))]⟩
theorem t0_l_eqSessionS (k n : Nat) (a0 : List TSession) (a1 : List TSession) (v1 : Int) : V0_l_eqSessionS k (n + 1) a0 a1 v1 = b0_l_eqSessionS k (V0_l_eqSessionS k n) a0 a1 v1 := by kernel_rfl
theorem e_l_eqSessionS (k : Nat) : ∀ n : Nat, V0_l_eqSessionS k n = l0_l_eqSessionS k n
  | 0 => (by funext a0 a1 v1; rfl)
  | n + 1 => by
    obtain h0 := e_l_eqSessionS k n
    exact (by funext a0 a1 v1; rw [t0_l_eqSessionS, h0] <;> rfl)
theorem u_l_eqSessionS (k : Nat) (a0 : List TSession) (a1 : List TSession) : runX (c_l_eqSessionS k) fin_l_eqSessionS k 118 [argV (.slice 149 ySession) a0, argV (.slice 149 ySession) a1] ms0 = g_l_eqSessionS k (V0_l_eqSessionS k k) a0 a1 := by kernel_rfl
theorem r_l_eqSessionS (k : Nat) (a0 : List TSession) (a1 : List TSession) : runX (c_l_eqSessionS k) fin_l_eqSessionS k 118 [argV (.slice 149 ySession) a0, argV (.slice 149 ySession) a1] ms0 = l_eqSessionS k a0 a1 := by rw [u_l_eqSessionS, show V0_l_eqSessionS k k = l0_l_eqSessionS k k from (e_l_eqSessionS k k)] <;> rfl
noncomputable def sp_l_eqSessionS (k : Nat) : Spec := .imm (.slice 149 ySession) fun (a0 : List TSession) => .imm (.slice 149 ySession) fun (a1 : List TSession) => .body (l_eqSessionS k a0 a1) (outV [.bool] [])
noncomputable def c_l_eqOut (k : Nat) : Cfg := { eqs := [], tab := [(3, (.int .i64)), (22, (.slice 3 (.int .i64))), (151, yOut)], spec := [(57, sp_l_eqIntS k)], mspec := [], inl := [(213, Try.f213)], keep := [], join := [], hold := [], ptrs := [], maps := [], fuel := k }
noncomputable def fin_l_eqOut : VV → Ms → Option Bool := finV [.bool] []
theorem r_l_eqOut (k : Nat) (a0 : TOut) (a1 : TOut) : runX (c_l_eqOut k) fin_l_eqOut k 213 [argV yOut a0, argV yOut a1] ms0 = l_eqOut k a0 a1 := by kernel_rfl
noncomputable def sp_l_eqOut (k : Nat) : Spec := .imm yOut fun (a0 : TOut) => .imm yOut fun (a1 : TOut) => .body (l_eqOut k a0 a1) (outV [.bool] [])
noncomputable def c_l_eqOutS (k : Nat) : Cfg := { eqs := [], tab := [(48, (.slice 151 yOut)), (151, yOut)], spec := [(213, sp_l_eqOut k)], mspec := [], inl := [(119, Try.f119)], keep := [(11900001004, [0, 1, 5])], join := [], hold := [], ptrs := [], maps := [], fuel := k }
noncomputable def fin_l_eqOutS : VV → Ms → Option Bool := finV [.bool] []
noncomputable def V0_l_eqOutS (k n : Nat) (a0 : List TOut) (a1 : List TOut) (v1 : Int) : Option Bool := lpN (c_l_eqOutS k) fin_l_eqOutS n true 11900001004 (cd [1, 1, 0, 1, 0, 0] (bo Try.f119)) [.b 0, .s (cd [1, 1, 1] (bo Try.f119)), .fn Try.f119] ⟨⟨(mkT 27 0 [(0, one (.slc 151 yOut a0)), (1, one (.slc 151 yOut a1)), (5, one (.int .i64 v1))]), []⟩, 11900001000, 1, [(0, (mkT 0 0 []))]⟩
theorem t0_l_eqOutS (k n : Nat) (a0 : List TOut) (a1 : List TOut) (v1 : Int) : V0_l_eqOutS k (n + 1) a0 a1 v1 = b0_l_eqOutS k (V0_l_eqOutS k n) a0 a1 v1 := by kernel_rfl
theorem e_l_eqOutS (k : Nat) : ∀ n : Nat, V0_l_eqOutS k n = l0_l_eqOutS k n
  | 0 => (by funext a0 a1 v1; rfl)
  | n + 1 => by
    obtain h0 := e_l_eqOutS k n
    exact (by funext a0 a1 v1; rw [t0_l_eqOutS, h0] <;> rfl)
theorem u_l_eqOutS (k : Nat) (a0 : List TOut) (a1 : List TOut) : runX (c_l_eqOutS k) fin_l_eqOutS k 119 [argV (.slice 151 yOut) a0, argV (.slice 151 yOut) a1] ms0 = g_l_eqOutS k (V0_l_eqOutS k k) a0 a1 := by kernel_rfl
theorem r_l_eqOutS (k : Nat) (a0 : List TOut) (a1 : List TOut) : runX (c_l_eqOutS k) fin_l_eqOutS k 119 [argV (.slice 151 yOut) a0, argV (.slice 151 yOut) a1] ms0 = l_eqOutS k a0 a1 := by rw [u_l_eqOutS, show V0_l_eqOutS k k = l0_l_eqOutS k k from (e_l_eqOutS k k)] <;> rfl
noncomputable def sp_l_eqOutS (k : Nat) : Spec := .imm (.slice 151 yOut) fun (a0 : List TOut) => .imm (.slice 151 yOut) fun (a1 : List TOut) => .body (l_eqOutS k a0 a1) (outV [.bool] [])
noncomputable def c_l_eqHall (k : Nat) : Cfg := { eqs := [], tab := [(43, (.slice 149 ySession)), (47, yRoom1), (48, (.slice 151 yOut)), (50, yHall1)], spec := [(76, sp_l_eqRoom k), (118, sp_l_eqSessionS k), (119, sp_l_eqOutS k)], mspec := [], inl := [(24, Try.f24)], keep := [], join := [], hold := [], ptrs := [], maps := [], fuel := k }
noncomputable def fin_l_eqHall : VV → Ms → Option Bool := finV [.bool] []
theorem r_l_eqHall (k : Nat) (a0 : THall) (a1 : THall) : runX (c_l_eqHall k) fin_l_eqHall k 24 [argV yHall1 a0, argV yHall1 a1] ms0 = l_eqHall k a0 a1 := by kernel_rfl
noncomputable def sp_l_eqHall (k : Nat) : Spec := .imm yHall1 fun (a0 : THall) => .imm yHall1 fun (a1 : THall) => .body (l_eqHall k a0 a1) (outV [.bool] [])
noncomputable def c_l_FnExactSameHall (k : Nat) : Cfg := { eqs := [], tab := [(4, .bool), (40, yHall), (50, yHall1)], spec := [(20, sp_l_szHall k), (21, sp_s_SameHall k), (22, sp_l_toHall k), (23, sp_i_SameHall k), (24, sp_l_eqHall k)], mspec := [], inl := [(4, Try.f4)], keep := [], join := [], hold := [], ptrs := [], maps := [], fuel := k }
noncomputable def fin_l_FnExactSameHall : VV → Ms → Option Bool := finV [.bool] []
theorem r_l_FnExactSameHall (k : Nat) (a0 : THall) (a1 : THall) : runX (c_l_FnExactSameHall k) fin_l_FnExactSameHall k 4 [argV yHall a0, argV yHall a1] ms0 = l_FnExactSameHall k a0 a1 := by kernel_rfl
noncomputable def sp_l_FnExactSameHall (k : Nat) : Spec := .imm yHall fun (a0 : THall) => .imm yHall fun (a1 : THall) => .body (l_FnExactSameHall k a0 a1) (outV [.bool] [])
end Go.Vm
