/- The machine computes them. -/
import Derived.Test.YtnkkafeaaogffaaG3
import Derived.Test.YtnkkafeaaogffaaWc
import Derived.Test.YtnkkafeaaogffaaProg
import Derived.KernelRfl
set_option linter.unusedVariables false
namespace Go.Vm
open Go Go.Proofs
abbrev yL05Cur : Ty := (.fld .str (.fld (.int .i64) (.fld .bool .nil)))
abbrev yEvent : Ty := (.fld (.int .i64) (.fld (.int .i64) (.fld (.int .i64) (.fld (.int .i64) (.fld (.int .i64) (.fld (.slice 3 (.int .i64)) (.fld .str (.fld (.slice 3 (.int .i64)) (.fld (.int .i64) .nil)))))))))
abbrev yCommand : Ty := (.fld (.int .i64) (.fld (.int .i64) (.fld (.int .i64) (.fld yEvent (.fld (.int .i64) (.fld (.int .i64) .nil))))))
abbrev yItem : Ty := (.fld (.int .i64) (.fld (.int .i64) .nil))
abbrev yRoom : Ty := (.fld (.slice 89 yEvent) (.fld (.slice 88 (.slice 179 yItem)) (.fld (.slice 4 .bool) .nil)))
abbrev ySession : Ty := (.fld (.int .i64) (.fld (.int .i64) (.fld .str .nil)))
abbrev yOut : Ty := (.fld (.int .i64) (.fld (.int .i64) (.fld (.slice 3 (.int .i64)) .nil)))
abbrev yHall : Ty := (.fld (.slice 207 ySession) (.fld yRoom (.fld (.slice 209 yOut) .nil)))
abbrev yRoom1 : Ty := (.fld (.slice 24 yEvent) (.fld (.slice 78 (.slice 129 yItem)) (.fld (.slice 4 .bool) .nil)))
abbrev yHall1 : Ty := (.fld (.slice 149 ySession) (.fld yRoom1 (.fld (.slice 151 yOut) .nil)))
abbrev yL01Cur : Ty := (.fld (.slice 5 (.int .u8)) (.fld (.int .i64) (.fld (.int .i64) .nil)))
abbrev yLog : Ty := (.fld (.int .i64) (.fld (.int .i64) (.fld (.slice 65 ySession) .nil)))
noncomputable def c_l_big (k : Nat) : Cfg := { eqs := [], tab := [(53, (.slice 5 (.int .u8)))], spec := [], mspec := [], inl := [(25, Try.f25)], keep := [], join := [], hold := [], ptrs := [], maps := [], fuel := k }
noncomputable def fin_l_big : VV → Ms → Option Bool := finV [.bool] []
theorem r_l_big (k : Nat) (a0 : List Int) : runX (c_l_big k) fin_l_big k 25 [argV (.slice 5 (.int .u8)) a0] ms0 = l_big k a0 := by kernel_rfl
noncomputable def sp_l_big (k : Nat) : Spec := .imm (.slice 5 (.int .u8)) fun (a0 : List Int) => .body (l_big k a0) (outV [.bool] [])
noncomputable def c_s_l01Byte (k : Nat) : Cfg := { eqs := [], tab := [(3, (.int .i64)), (5, (.int .u8)), (53, (.slice 5 (.int .u8))), (218, yL01Cur)], spec := [], mspec := [], inl := [(180, Try.f180)], keep := [], join := [], hold := [], ptrs := [], maps := [], fuel := k }
noncomputable def fin_s_l01Byte : VV → Ms → Option (Int × TL01Cur × Unit) := finM [(.int .i64)] [] [.box yL01Cur]
theorem r_s_l01Byte (k : Nat) (a0 : TL01Cur) : runX (c_s_l01Byte k) fin_s_l01Byte k 180 (pArgsV 1 [.box yL01Cur] (a0, ())) (ms1 [.box yL01Cur] (a0, ())) = s_l01Byte k a0 := by kernel_rfl
noncomputable def sp_s_l01Byte (k : Nat) : MSpec := .box yL01Cur fun (a0 : TL01Cur) => .body (s_l01Byte k a0) (fun r => outV [(.int .i64)] [] r.1) (fun r => poV [.box yL01Cur] r.2)
noncomputable def c_s_l01Below (k : Nat) : Cfg := { eqs := [], tab := [], spec := [], mspec := [(180, sp_s_l01Byte k)], inl := [(172, Try.f172)], keep := [], join := [], hold := [], ptrs := [], maps := [], fuel := k }
noncomputable def fin_s_l01Below : VV → Ms → Option (Int × TL01Cur × Unit) := finM [(.int .i64)] [] [.box yL01Cur, .imm (.int .i64)]
theorem r_s_l01Below (k : Nat) (a0 : TL01Cur) (a1 : Int) : runX (c_s_l01Below k) fin_s_l01Below k 172 (pArgsV 1 [.box yL01Cur, .imm (.int .i64)] (a0, a1, ())) (ms1 [.box yL01Cur, .imm (.int .i64)] (a0, a1, ())) = s_l01Below k a0 a1 := by kernel_rfl
noncomputable def sp_s_l01Below (k : Nat) : MSpec := .box yL01Cur fun (a0 : TL01Cur) => .imm (.int .i64) fun (a1 : Int) => .body (s_l01Below k a0 a1) (fun r => outV [(.int .i64)] [] r.1) (fun r => poV [.box yL01Cur, .imm (.int .i64)] r.2)
noncomputable def c_s_l01Once (k : Nat) : Cfg := { eqs := [], tab := [], spec := [], mspec := [(172, sp_s_l01Below k)], inl := [(173, Try.f173)], keep := [], join := [], hold := [], ptrs := [], maps := [], fuel := k }
noncomputable def fin_s_l01Once : VV → Ms → Option (Bool × TL01Cur × Unit) := finM [.bool] [] [.box yL01Cur, .imm (.int .i64)]
theorem r_s_l01Once (k : Nat) (a0 : TL01Cur) (a1 : Int) : runX (c_s_l01Once k) fin_s_l01Once k 173 (pArgsV 1 [.box yL01Cur, .imm (.int .i64)] (a0, a1, ())) (ms1 [.box yL01Cur, .imm (.int .i64)] (a0, a1, ())) = s_l01Once k a0 a1 := by kernel_rfl
noncomputable def sp_s_l01Once (k : Nat) : MSpec := .box yL01Cur fun (a0 : TL01Cur) => .imm (.int .i64) fun (a1 : Int) => .body (s_l01Once k a0 a1) (fun r => outV [.bool] [] r.1) (fun r => poV [.box yL01Cur, .imm (.int .i64)] r.2)
noncomputable def c_s_l01PickInt (k : Nat) : Cfg := { eqs := [], tab := [(3, (.int .i64)), (22, (.slice 3 (.int .i64)))], spec := [], mspec := [(172, sp_s_l01Below k)], inl := [(215, Try.f215)], keep := [], join := [], hold := [], ptrs := [], maps := [], fuel := k }
noncomputable def fin_s_l01PickInt : VV → Ms → Option (Int × TL01Cur × Unit) := finM [(.int .i64)] [] [.box yL01Cur, .imm (.slice 3 (.int .i64))]
theorem r_s_l01PickInt (k : Nat) (a0 : TL01Cur) (a1 : List Int) : runX (c_s_l01PickInt k) fin_s_l01PickInt k 215 (pArgsV 1 [.box yL01Cur, .imm (.slice 3 (.int .i64))] (a0, a1, ())) (ms1 [.box yL01Cur, .imm (.slice 3 (.int .i64))] (a0, a1, ())) = s_l01PickInt k a0 a1 := by kernel_rfl
noncomputable def sp_s_l01PickInt (k : Nat) : MSpec := .box yL01Cur fun (a0 : TL01Cur) => .imm (.slice 3 (.int .i64)) fun (a1 : List Int) => .body (s_l01PickInt k a0 a1) (fun r => outV [(.int .i64)] [] r.1) (fun r => poV [.box yL01Cur, .imm (.slice 3 (.int .i64))] r.2)
noncomputable def c_s_l01Pick (k : Nat) : Cfg := { eqs := [], tab := [(9, .str), (233, (.slice 9 .str))], spec := [], mspec := [(172, sp_s_l01Below k)], inl := [(238, Try.f238)], keep := [], join := [], hold := [], ptrs := [], maps := [], fuel := k }
noncomputable def fin_s_l01Pick : VV → Ms → Option (ByteArray × TL01Cur × Unit) := finM [.str] [] [.box yL01Cur, .imm (.slice 9 .str)]
theorem r_s_l01Pick (k : Nat) (a0 : TL01Cur) (a1 : List ByteArray) : runX (c_s_l01Pick k) fin_s_l01Pick k 238 (pArgsV 1 [.box yL01Cur, .imm (.slice 9 .str)] (a0, a1, ())) (ms1 [.box yL01Cur, .imm (.slice 9 .str)] (a0, a1, ())) = s_l01Pick k a0 a1 := by kernel_rfl
noncomputable def sp_s_l01Pick (k : Nat) : MSpec := .box yL01Cur fun (a0 : TL01Cur) => .imm (.slice 9 .str) fun (a1 : List ByteArray) => .body (s_l01Pick k a0 a1) (fun r => outV [.str] [] r.1) (fun r => poV [.box yL01Cur, .imm (.slice 9 .str)] r.2)
noncomputable def c_s_l09Bodied (k : Nat) : Cfg := { eqs := [], tab := [(3, (.int .i64)), (9, .str), (22, (.slice 3 (.int .i64))), (24, yEvent), (233, (.slice 9 .str))], spec := [], mspec := [(172, sp_s_l01Below k), (173, sp_s_l01Once k), (215, sp_s_l01PickInt k), (238, sp_s_l01Pick k)], inl := [(214, Try.f214)], keep := [(21400001012, [0, 2, 3, 4])], join := [], hold := [(21400001012, [(3, [0, 5], 3, (.int .i64), false, false)])], ptrs := [], maps := [], fuel := k }
noncomputable def fin_s_l09Bodied : VV → Ms → Option (TEvent × TL01Cur × Unit) := finM [yEvent] [true, true] [.box yL01Cur]
noncomputable def V0_s_l09Bodied (k n : Nat) (v1 : Int) (v2 : List Int) (v3 : Int) (v4 : Int) (r1 : Int × TL01Cur × Unit) (r2 : Int × TL01Cur × Unit) (xs5 : List Int) : Option (TEvent × TL01Cur × Unit) := lpN (c_s_l09Bodied k) fin_s_l09Bodied n true 21400001012 (cd [1, 1, 0, 1, 0, 1, 1, 1, 0, 0, 1, 0, 0] (bo Try.f214)) [.b 1, .s (cd [1, 1, 0, 1, 0, 1, 1, 1, 0, 1] (bo Try.f214)), .b 0, .s (cd [1, 1, 1] (bo Try.f214)), .fn Try.f214] ⟨⟨(mkT 67 0 [(0, one (.ptr 9000000 0)), (2, one (.ptr 9000001 0)), (3, one (.ptr 9000002 0)), (4, one (.int .i64 v1))]), [(9000000, .box [.slc 5 (.int .u8) v2, .int .i64 v3, .int .i64 v4]), (9000001, .box [.int .i64 0, .int .i64 0, .int .i64 0, .int .i64 0, .int .i64 0, .nilS, .str ByteArray.empty, .nilS, .int .i64 0]), (9000002, .box [.int .i64 0, .int .i64 r1.1, .int .i64 (w64 (1 + r2.1)), .int .i64 0, .int .i64 0, .row 9000003 none none, .str ByteArray.empty, .nilS, .int .i64 0]), (9000003, .row 3 (.int .i64) xs5 true)]⟩, 21400001000, 1, [(0, (mkT 1 0 [(0, one (.ptr 9000000 0))]))]⟩
theorem t0_s_l09Bodied (k n : Nat) (v1 : Int) (v2 : List Int) (v3 : Int) (v4 : Int) (r1 : Int × TL01Cur × Unit) (r2 : Int × TL01Cur × Unit) (xs5 : List Int) : V0_s_l09Bodied k (n + 1) v1 v2 v3 v4 r1 r2 xs5 = b0_s_l09Bodied k (V0_s_l09Bodied k n) v1 v2 v3 v4 r1 r2 xs5 := by kernel_rfl
theorem e_s_l09Bodied (k : Nat) : ∀ n : Nat, V0_s_l09Bodied k n = l0_s_l09Bodied k n
  | 0 => (by funext v1 v2 v3 v4 r1 r2 xs5; rfl)
  | n + 1 => by
    obtain h0 := e_s_l09Bodied k n
    exact (by funext v1 v2 v3 v4 r1 r2 xs5; rw [t0_s_l09Bodied, h0] <;> rfl)
theorem u_s_l09Bodied (k : Nat) (a0 : TL01Cur) : runX (c_s_l09Bodied k) fin_s_l09Bodied k 214 (pArgsV 1 [.box yL01Cur] (a0, ())) (ms1 [.box yL01Cur] (a0, ())) = g_s_l09Bodied k (V0_s_l09Bodied k k) a0 := by kernel_rfl
theorem r_s_l09Bodied (k : Nat) (a0 : TL01Cur) : runX (c_s_l09Bodied k) fin_s_l09Bodied k 214 (pArgsV 1 [.box yL01Cur] (a0, ())) (ms1 [.box yL01Cur] (a0, ())) = s_l09Bodied k a0 := by rw [u_s_l09Bodied, show V0_s_l09Bodied k k = l0_s_l09Bodied k k from (e_s_l09Bodied k k)] <;> rfl
noncomputable def sp_s_l09Bodied (k : Nat) : MSpec := .box yL01Cur fun (a0 : TL01Cur) => .body (s_l09Bodied k a0) (fun r => outV [yEvent] [true, true] r.1) (fun r => poV [.box yL01Cur] r.2)
noncomputable def c_s_l01Long (k : Nat) : Cfg := { eqs := [], tab := [(5, (.int .u8)), (9, .str), (53, (.slice 5 (.int .u8)))], spec := [], mspec := [], inl := [(216, Try.f216)], keep := [(21600001003, [0, 1, 5, 6])], join := [], hold := [], ptrs := [], maps := [], fuel := k }
noncomputable def fin_s_l01Long : VV → Ms → Option ByteArray := finV [.str] []
noncomputable def V0_s_l01Long (k n : Nat) (a0 : Int) (a1 : Int) (v1 : Int) (xs2 : List Int) : Option ByteArray := lpN (c_s_l01Long k) fin_s_l01Long n true 21600001003 (cd [1, 1, 0, 1, 0, 0] (bo Try.f216)) [.b 0, .s (cd [1, 1, 1] (bo Try.f216)), .fn Try.f216] ⟨⟨(mkT 20 0 [(0, one (.int .i64 a0)), (1, one (.int .u8 a1)), (5, one (.row 9000000 none none)), (6, one (.int .i64 v1))]), [(9000000, .row 5 (.int .u8) xs2 true)]⟩, 21600001000, 1, [(0, (mkT 0 0 []))]⟩
theorem t0_s_l01Long (k n : Nat) (a0 : Int) (a1 : Int) (v1 : Int) (xs2 : List Int) : V0_s_l01Long k (n + 1) a0 a1 v1 xs2 = b0_s_l01Long k (V0_s_l01Long k n) a0 a1 v1 xs2 := by kernel_rfl
theorem e_s_l01Long (k : Nat) : ∀ n : Nat, V0_s_l01Long k n = l0_s_l01Long k n
  | 0 => (by funext a0 a1 v1 xs2; rfl)
  | n + 1 => by
    obtain h0 := e_s_l01Long k n
    exact (by funext a0 a1 v1 xs2; rw [t0_s_l01Long, h0] <;> rfl)
theorem u_s_l01Long (k : Nat) (a0 : Int) (a1 : Int) : runX (c_s_l01Long k) fin_s_l01Long k 216 [argV (.int .i64) a0, argV (.int .u8) a1] ms0 = g_s_l01Long k (V0_s_l01Long k k) a0 a1 := by kernel_rfl
theorem r_s_l01Long (k : Nat) (a0 : Int) (a1 : Int) : runX (c_s_l01Long k) fin_s_l01Long k 216 [argV (.int .i64) a0, argV (.int .u8) a1] ms0 = s_l01Long k a0 a1 := by rw [u_s_l01Long, show V0_s_l01Long k k = l0_s_l01Long k k from (e_s_l01Long k k)] <;> rfl
noncomputable def sp_s_l01Long (k : Nat) : Spec := .imm (.int .i64) fun (a0 : Int) => .imm (.int .u8) fun (a1 : Int) => .body (s_l01Long k a0 a1) (outV [.str] [])
noncomputable def c_s_l09Any (k : Nat) : Cfg := { eqs := [], tab := [(3, (.int .i64)), (9, .str), (22, (.slice 3 (.int .i64))), (24, yEvent)], spec := [(216, sp_s_l01Long k)], mspec := [(172, sp_s_l01Below k), (214, sp_s_l09Bodied k), (215, sp_s_l01PickInt k)], inl := [(120, Try.f120)], keep := [(12000001005, [0, 2, 3, 4])], join := [], hold := [], ptrs := [], maps := [], fuel := k }
noncomputable def fin_s_l09Any : VV → Ms → Option (TEvent × TL01Cur × Unit) := finM [yEvent] [true, true] [.box yL01Cur]
noncomputable def V0_s_l09Any (k n : Nat) (v1 : Int) (v2 : List Int) (v3 : Int) (v4 : Int) (r2 : Int × TL01Cur × Unit) (r1 : TEvent × TL01Cur × Unit) (r3 : Int × TL01Cur × Unit) (xs5 : List Int) : Option (TEvent × TL01Cur × Unit) := lpN (c_s_l09Any k) fin_s_l09Any n true 12000001005 (cd [1, 1, 1, 1, 0, 1, 0, 0] (bo Try.f120)) [.b 0, .s (cd [1, 1, 1, 1, 1] (bo Try.f120)), .fn Try.f120] ⟨⟨(mkT 117 0 [(0, one (.ptr 9000000 0)), (2, one (.ptr 9000001 0)), (3, one (.ptr 9000002 0)), (4, one (.int .i64 v1))]), [(9000000, .box [.slc 5 (.int .u8) v2, .int .i64 v3, .int .i64 v4]), (9000001, .box [.int .i64 0, .int .i64 0, .int .i64 0, .int .i64 0, .int .i64 0, .nilS, .str ByteArray.empty, .nilS, .int .i64 0]), (9000002, .box [.int .i64 (w64 (1 + r2.1)), .int .i64 r1.1.2.1, .int .i64 r1.1.2.2.1, .int .i64 r1.1.2.2.2.1, .int .i64 r1.1.2.2.2.2.1, .row 9000003 none none, .str r1.1.2.2.2.2.2.2.1, .row 9000004 none none, .int .i64 r3.1]), (9000003, .row 3 (.int .i64) r1.1.2.2.2.2.2.1 true), (9000004, .row 3 (.int .i64) xs5 true)]⟩, 12000001000, 1, [(0, (mkT 1 0 [(0, one (.ptr 9000000 0))]))]⟩
theorem t0_s_l09Any (k n : Nat) (v1 : Int) (v2 : List Int) (v3 : Int) (v4 : Int) (r2 : Int × TL01Cur × Unit) (r1 : TEvent × TL01Cur × Unit) (r3 : Int × TL01Cur × Unit) (xs5 : List Int) : V0_s_l09Any k (n + 1) v1 v2 v3 v4 r2 r1 r3 xs5 = b0_s_l09Any k (V0_s_l09Any k n) v1 v2 v3 v4 r2 r1 r3 xs5 := by kernel_rfl
theorem e_s_l09Any (k : Nat) : ∀ n : Nat, V0_s_l09Any k n = l0_s_l09Any k n
  | 0 => (by funext v1 v2 v3 v4 r2 r1 r3 xs5; rfl)
  | n + 1 => by
    obtain h0 := e_s_l09Any k n
    exact (by funext v1 v2 v3 v4 r2 r1 r3 xs5; rw [t0_s_l09Any, h0] <;> rfl)
theorem u_s_l09Any (k : Nat) (a0 : TL01Cur) : runX (c_s_l09Any k) fin_s_l09Any k 120 (pArgsV 1 [.box yL01Cur] (a0, ())) (ms1 [.box yL01Cur] (a0, ())) = g_s_l09Any k (V0_s_l09Any k k) a0 := by kernel_rfl
theorem r_s_l09Any (k : Nat) (a0 : TL01Cur) : runX (c_s_l09Any k) fin_s_l09Any k 120 (pArgsV 1 [.box yL01Cur] (a0, ())) (ms1 [.box yL01Cur] (a0, ())) = s_l09Any k a0 := by rw [u_s_l09Any, show V0_s_l09Any k k = l0_s_l09Any k k from (e_s_l09Any k k)] <;> rfl
noncomputable def sp_s_l09Any (k : Nat) : MSpec := .box yL01Cur fun (a0 : TL01Cur) => .body (s_l09Any k a0) (fun r => outV [yEvent] [true, true] r.1) (fun r => poV [.box yL01Cur] r.2)
noncomputable def c_s_DrawEventText (k : Nat) : Cfg := { eqs := [], tab := [(3, (.int .i64)), (5, (.int .u8)), (24, yEvent), (53, (.slice 5 (.int .u8))), (218, yL01Cur)], spec := [], mspec := [(120, sp_s_l09Any k)], inl := [(26, Try.f26), (121, Try.f121)], keep := [(12100002003, [0, 3, 4])], join := [], hold := [], ptrs := [], maps := [], fuel := k }
noncomputable def fin_s_DrawEventText : VV → Ms → Option TEvent := finV [yEvent] [true, true]
noncomputable def V0_s_DrawEventText (k n : Nat) (a0 : List Int) (v1 : Int) (v2 : Int) : Option TEvent := lpN (c_s_DrawEventText k) fin_s_DrawEventText n true 12100002003 (cd [1, 1, 0, 1, 0, 0] (bo Try.f121)) [.b 0, .s (cd [1, 1, 1] (bo Try.f121)), .fn Try.f121, .op (rg (cd [1, 0] (bo Try.f26))) ((rg (cd [1, 0] (bo Try.f26))).drop 2) 2 (some 4), .s (cd [1, 1] (bo Try.f26)), .fn Try.f26] ⟨⟨(mkT 32 0 [(0, one (.slc 5 (.int .u8) a0)), (3, one (.int .i64 v1)), (4, one (.int .i64 v2))]), [(9000000, .box [.int .i64 0, .int .i64 0, .int .i64 0, .int .i64 0, .int .i64 0, .nilS, .str ByteArray.empty, .nilS, .int .i64 0])]⟩, 12100002000, 2, [(2600001000, (mkT 6 0 [(0, one (.slc 5 (.int .u8) a0)), (2, one (.ptr 9000000 0)), (3, one (.slc 5 (.int .u8) a0))])), (0, (mkT 0 0 []))]⟩
theorem t0_s_DrawEventText (k n : Nat) (a0 : List Int) (v1 : Int) (v2 : Int) : V0_s_DrawEventText k (n + 1) a0 v1 v2 = b0_s_DrawEventText k (V0_s_DrawEventText k n) a0 v1 v2 := by kernel_rfl
theorem e_s_DrawEventText (k : Nat) : ∀ n : Nat, V0_s_DrawEventText k n = l0_s_DrawEventText k n
  | 0 => (by funext a0 v1 v2; rfl)
  | n + 1 => by
    obtain h0 := e_s_DrawEventText k n
    exact (by funext a0 v1 v2; rw [t0_s_DrawEventText, h0] <;> rfl)
theorem u_s_DrawEventText (k : Nat) (a0 : List Int) : runX (c_s_DrawEventText k) fin_s_DrawEventText k 26 [argV (.slice 5 (.int .u8)) a0] ms0 = g_s_DrawEventText k (V0_s_DrawEventText k k) a0 := by kernel_rfl
theorem r_s_DrawEventText (k : Nat) (a0 : List Int) : runX (c_s_DrawEventText k) fin_s_DrawEventText k 26 [argV (.slice 5 (.int .u8)) a0] ms0 = s_DrawEventText k a0 := by rw [u_s_DrawEventText, show V0_s_DrawEventText k k = l0_s_DrawEventText k k from (e_s_DrawEventText k k)] <;> rfl
noncomputable def sp_s_DrawEventText (k : Nat) : Spec := .imm (.slice 5 (.int .u8)) fun (a0 : List Int) => .body (s_DrawEventText k a0) (outV [yEvent] [true, true])
noncomputable def c_i_within (k : Nat) : Cfg := { eqs := [], tab := [], spec := [], mspec := [], inl := [(129, Try.f129)], keep := [], join := [], hold := [], ptrs := [], maps := [], fuel := k }
noncomputable def fin_i_within : VV → Ms → Option Bool := finV [.bool] []
theorem r_i_within (k : Nat) (a0 : Int) (a1 : Int) (a2 : Int) : runX (c_i_within k) fin_i_within k 129 [argV (.int .i64) a0, argV (.int .i64) a1, argV (.int .i64) a2] ms0 = i_within k a0 a1 a2 := by kernel_rfl
noncomputable def sp_i_within (k : Nat) : Spec := .imm (.int .i64) fun (a0 : Int) => .imm (.int .i64) fun (a1 : Int) => .imm (.int .i64) fun (a2 : Int) => .body (i_within k a0 a1 a2) (outV [.bool] [])
noncomputable def c_i_levelsOk (k : Nat) : Cfg := { eqs := [], tab := [(3, (.int .i64)), (22, (.slice 3 (.int .i64))), (24, yEvent)], spec := [(129, sp_i_within k)], mspec := [], inl := [(130, Try.f130)], keep := [(13000001004, [1, 13, 14, 15])], join := [], hold := [], ptrs := [], maps := [], fuel := k }
noncomputable def fin_i_levelsOk : VV → Ms → Option Bool := finV [.bool] []
noncomputable def V0_i_levelsOk (k n : Nat) (a0 : TEvent) (v1 : Int) : Option Bool := lpN (c_i_levelsOk k) fin_i_levelsOk n true 13000001004 (cd [1, 1, 0, 1, 0, 0] (bo Try.f130)) [.b 0, .s (cd [1, 1, 1] (bo Try.f130)), .fn Try.f130] ⟨⟨(mkT 27 0 [(1, one (.ptr 9000000 0)), (13, one (.slc 3 (.int .i64) a0.2.2.2.2.2.1)), (14, one (.int .i64 (a0.2.2.2.2.2.1.length : Int))), (15, one (.int .i64 v1))]), [(9000000, .box [.int .i64 a0.1, .int .i64 a0.2.1, .int .i64 a0.2.2.1, .int .i64 a0.2.2.2.1, .int .i64 a0.2.2.2.2.1, .slc 3 (.int .i64) a0.2.2.2.2.2.1, .str a0.2.2.2.2.2.2.1, .slc 3 (.int .i64) a0.2.2.2.2.2.2.2.1, .int .i64 a0.2.2.2.2.2.2.2.2.1])]⟩, 13000001000, 1, [(0, (mkT 0 0 []))]⟩
theorem t0_i_levelsOk (k n : Nat) (a0 : TEvent) (v1 : Int) : V0_i_levelsOk k (n + 1) a0 v1 = b0_i_levelsOk k (V0_i_levelsOk k n) a0 v1 := by kernel_rfl
theorem e_i_levelsOk (k : Nat) : ∀ n : Nat, V0_i_levelsOk k n = l0_i_levelsOk k n
  | 0 => (by funext a0 v1; rfl)
  | n + 1 => by
    obtain h0 := e_i_levelsOk k n
    exact (by funext a0 v1; rw [t0_i_levelsOk, h0] <;> rfl)
theorem u_i_levelsOk (k : Nat) (a0 : TEvent) : runX (c_i_levelsOk k) fin_i_levelsOk k 130 [argV yEvent a0] ms0 = g_i_levelsOk k (V0_i_levelsOk k k) a0 := by kernel_rfl
theorem r_i_levelsOk (k : Nat) (a0 : TEvent) : runX (c_i_levelsOk k) fin_i_levelsOk k 130 [argV yEvent a0] ms0 = i_levelsOk k a0 := by rw [u_i_levelsOk, show V0_i_levelsOk k k = l0_i_levelsOk k k from (e_i_levelsOk k k)] <;> rfl
noncomputable def sp_i_levelsOk (k : Nat) : Spec := .imm yEvent fun (a0 : TEvent) => .body (i_levelsOk k a0) (outV [.bool] [])
noncomputable def c_i_prevOk (k : Nat) : Cfg := { eqs := [], tab := [(3, (.int .i64)), (4, .bool), (22, (.slice 3 (.int .i64))), (24, yEvent)], spec := [(129, sp_i_within k)], mspec := [], inl := [(131, Try.f131)], keep := [(13100001002, [1, 6, 7, 8])], join := [], hold := [], ptrs := [], maps := [], fuel := k }
noncomputable def fin_i_prevOk : VV → Ms → Option Bool := finV [.bool] []
noncomputable def V0_i_prevOk (k n : Nat) (a0 : TEvent) (v1 : Int) : Option Bool := lpN (c_i_prevOk k) fin_i_prevOk n true 13100001002 (cd [1, 0, 1, 0, 0] (bo Try.f131)) [.b 0, .s (cd [1, 1] (bo Try.f131)), .fn Try.f131] ⟨⟨(mkT 51 0 [(1, one (.ptr 9000000 0)), (6, one (.slc 3 (.int .i64) a0.2.2.2.2.2.2.2.1)), (7, one (.int .i64 (a0.2.2.2.2.2.2.2.1.length : Int))), (8, one (.int .i64 v1))]), [(9000000, .box [.int .i64 a0.1, .int .i64 a0.2.1, .int .i64 a0.2.2.1, .int .i64 a0.2.2.2.1, .int .i64 a0.2.2.2.2.1, .slc 3 (.int .i64) a0.2.2.2.2.2.1, .str a0.2.2.2.2.2.2.1, .slc 3 (.int .i64) a0.2.2.2.2.2.2.2.1, .int .i64 a0.2.2.2.2.2.2.2.2.1])]⟩, 13100001000, 1, [(0, (mkT 0 0 []))]⟩
theorem t0_i_prevOk (k n : Nat) (a0 : TEvent) (v1 : Int) : V0_i_prevOk k (n + 1) a0 v1 = b0_i_prevOk k (V0_i_prevOk k n) a0 v1 := by kernel_rfl
theorem e_i_prevOk (k : Nat) : ∀ n : Nat, V0_i_prevOk k n = l0_i_prevOk k n
  | 0 => (by funext a0 v1; rfl)
  | n + 1 => by
    obtain h0 := e_i_prevOk k n
    exact (by funext a0 v1; rw [t0_i_prevOk, h0] <;> rfl)
theorem u_i_prevOk (k : Nat) (a0 : TEvent) : runX (c_i_prevOk k) fin_i_prevOk k 131 [argV yEvent a0] ms0 = g_i_prevOk k (V0_i_prevOk k k) a0 := by kernel_rfl
theorem r_i_prevOk (k : Nat) (a0 : TEvent) : runX (c_i_prevOk k) fin_i_prevOk k 131 [argV yEvent a0] ms0 = i_prevOk k a0 := by rw [u_i_prevOk, show V0_i_prevOk k k = l0_i_prevOk k k from (e_i_prevOk k k)] <;> rfl
noncomputable def sp_i_prevOk (k : Nat) : Spec := .imm yEvent fun (a0 : TEvent) => .body (i_prevOk k a0) (outV [.bool] [])
noncomputable def c_i_EventOk (k : Nat) : Cfg := { eqs := [], tab := [(3, (.int .i64)), (9, .str), (24, yEvent)], spec := [(129, sp_i_within k), (130, sp_i_levelsOk k), (131, sp_i_prevOk k)], mspec := [], inl := [(30, Try.f30)], keep := [], join := [], hold := [], ptrs := [], maps := [], fuel := k }
noncomputable def fin_i_EventOk : VV → Ms → Option Bool := finV [.bool] []
theorem r_i_EventOk (k : Nat) (a0 : TEvent) : runX (c_i_EventOk k) fin_i_EventOk k 30 [argV yEvent a0] ms0 = i_EventOk k a0 := by kernel_rfl
noncomputable def sp_i_EventOk (k : Nat) : Spec := .imm yEvent fun (a0 : TEvent) => .body (i_EventOk k a0) (outV [.bool] [])
noncomputable def c_i_VarText (k : Nat) : Cfg := { eqs := [], tab := [(3, (.int .i64)), (5, (.int .u8)), (9, .str), (53, (.slice 5 (.int .u8)))], spec := [(129, sp_i_within k)], mspec := [], inl := [(122, Try.f122)], keep := [(12200001004, [0, 4])], join := [], hold := [(12200001004, [(4, [0], 5, (.int .u8), false, false)])], ptrs := [], maps := [], fuel := k }
noncomputable def fin_i_VarText : VV → Ms → Option (ByteArray × Bool) := finV [.str, .bool] []
noncomputable def V0_i_VarText (k n : Nat) (a0 : Int) (xs1 : List Int) : Option (ByteArray × Bool) := lpN (c_i_VarText k) fin_i_VarText n true 12200001004 (cd [1, 1, 1, 0, 0, 0] (bo Try.f122)) [.b 0, .s (cd [1, 1, 1, 1] (bo Try.f122)), .fn Try.f122] ⟨⟨(mkT 25 0 [(0, one (.int .i64 a0)), (4, one (.row 9000000 none none))]), [(9000000, .row 5 (.int .u8) xs1 true)]⟩, 12200001000, 1, [(0, (mkT 0 0 []))]⟩
theorem t0_i_VarText (k n : Nat) (a0 : Int) (xs1 : List Int) : V0_i_VarText k (n + 1) a0 xs1 = b0_i_VarText k (V0_i_VarText k n) a0 xs1 := by kernel_rfl
theorem e_i_VarText (k : Nat) : ∀ n : Nat, V0_i_VarText k n = l0_i_VarText k n
  | 0 => (by funext a0 xs1; rfl)
  | n + 1 => by
    obtain h0 := e_i_VarText k n
    exact (by funext a0 xs1; rw [t0_i_VarText, h0] <;> rfl)
theorem u_i_VarText (k : Nat) (a0 : Int) : runX (c_i_VarText k) fin_i_VarText k 122 [argV (.int .i64) a0] ms0 = g_i_VarText k (V0_i_VarText k k) a0 := by kernel_rfl
theorem r_i_VarText (k : Nat) (a0 : Int) : runX (c_i_VarText k) fin_i_VarText k 122 [argV (.int .i64) a0] ms0 = i_VarText k a0 := by rw [u_i_VarText, show V0_i_VarText k k = l0_i_VarText k k from (e_i_VarText k k)] <;> rfl
noncomputable def sp_i_VarText (k : Nat) : Spec := .imm (.int .i64) fun (a0 : Int) => .body (i_VarText k a0) (outV [.str, .bool] [])
noncomputable def c_i_vars (k : Nat) : Cfg := { eqs := [], tab := [(3, (.int .i64)), (9, .str), (22, (.slice 3 (.int .i64))), (53, (.slice 5 (.int .u8)))], spec := [(122, sp_i_VarText k)], mspec := [], inl := [(123, Try.f123)], keep := [(12300001003, [4, 9, 10, 11])], join := [], hold := [(12300001003, [(4, [0], 5, (.int .u8), false, false)])], ptrs := [], maps := [], fuel := k }
noncomputable def fin_i_vars : VV → Ms → Option (ByteArray × Bool) := finV [.str, .bool] []
noncomputable def V0_i_vars (k n : Nat) (a0 : List Int) (v1 : Int) (xs2 : List Int) : Option (ByteArray × Bool) := lpN (c_i_vars k) fin_i_vars n true 12300001003 (cd [1, 1, 0, 1, 0, 0] (bo Try.f123)) [.b 0, .s (cd [1, 1, 1] (bo Try.f123)), .fn Try.f123] ⟨⟨(mkT 28 0 [(4, one (.row 9000000 none none)), (9, one (.slc 3 (.int .i64) a0)), (10, one (.int .i64 (a0.length : Int))), (11, one (.int .i64 v1))]), [(9000000, .row 5 (.int .u8) xs2 true)]⟩, 12300001000, 1, [(0, (mkT 0 0 []))]⟩
theorem t0_i_vars (k n : Nat) (a0 : List Int) (v1 : Int) (xs2 : List Int) : V0_i_vars k (n + 1) a0 v1 xs2 = b0_i_vars k (V0_i_vars k n) a0 v1 xs2 := by kernel_rfl
theorem e_i_vars (k : Nat) : ∀ n : Nat, V0_i_vars k n = l0_i_vars k n
  | 0 => (by funext a0 v1 xs2; rfl)
  | n + 1 => by
    obtain h0 := e_i_vars k n
    exact (by funext a0 v1 xs2; rw [t0_i_vars, h0] <;> rfl)
theorem u_i_vars (k : Nat) (a0 : List Int) : runX (c_i_vars k) fin_i_vars k 123 [argV (.slice 3 (.int .i64)) a0] ms0 = g_i_vars k (V0_i_vars k k) a0 := by kernel_rfl
theorem r_i_vars (k : Nat) (a0 : List Int) : runX (c_i_vars k) fin_i_vars k 123 [argV (.slice 3 (.int .i64)) a0] ms0 = i_vars k a0 := by rw [u_i_vars, show V0_i_vars k k = l0_i_vars k k from (e_i_vars k k)] <;> rfl
noncomputable def sp_i_vars (k : Nat) : Spec := .imm (.slice 3 (.int .i64)) fun (a0 : List Int) => .body (i_vars k a0) (outV [.str, .bool] [])
noncomputable def c_i_ShortText (k : Nat) : Cfg := { eqs := [], tab := [(9, .str)], spec := [(122, sp_i_VarText k)], mspec := [], inl := [(217, Try.f217)], keep := [], join := [], hold := [], ptrs := [], maps := [], fuel := k }
noncomputable def fin_i_ShortText : VV → Ms → Option (ByteArray × Bool) := finV [.str, .bool] []
theorem r_i_ShortText (k : Nat) (a0 : ByteArray) : runX (c_i_ShortText k) fin_i_ShortText k 217 [argV .str a0] ms0 = i_ShortText k a0 := by kernel_rfl
noncomputable def sp_i_ShortText (k : Nat) : Spec := .imm .str fun (a0 : ByteArray) => .body (i_ShortText k a0) (outV [.str, .bool] [])
noncomputable def c_i_listText (k : Nat) : Cfg := { eqs := [], tab := [(3, (.int .i64)), (5, (.int .u8)), (9, .str), (22, (.slice 3 (.int .i64))), (53, (.slice 5 (.int .u8)))], spec := [(122, sp_i_VarText k)], mspec := [], inl := [(218, Try.f218)], keep := [(21800001003, [3, 13, 14, 15])], join := [], hold := [], ptrs := [], maps := [], fuel := k }
noncomputable def fin_i_listText : VV → Ms → Option ByteArray := finV [.str] []
noncomputable def V0_i_listText (k n : Nat) (v1 : ByteArray) (a0 : List Int) (v2 : Int) : Option ByteArray := lpN (c_i_listText k) fin_i_listText n true 21800001003 (cd [1, 1, 0, 1, 0, 0] (bo Try.f218)) [.b 0, .s (cd [1, 1, 1] (bo Try.f218)), .fn Try.f218] ⟨⟨(mkT 27 0 [(3, one (.str v1)), (13, one (.slc 3 (.int .i64) a0)), (14, one (.int .i64 (a0.length : Int))), (15, one (.int .i64 v2))]), []⟩, 21800001000, 1, [(0, (mkT 0 0 []))]⟩
theorem t0_i_listText (k n : Nat) (v1 : ByteArray) (a0 : List Int) (v2 : Int) : V0_i_listText k (n + 1) v1 a0 v2 = b0_i_listText k (V0_i_listText k n) v1 a0 v2 := by kernel_rfl
theorem e_i_listText (k : Nat) : ∀ n : Nat, V0_i_listText k n = l0_i_listText k n
  | 0 => (by funext v1 a0 v2; rfl)
  | n + 1 => by
    obtain h0 := e_i_listText k n
    exact (by funext v1 a0 v2; rw [t0_i_listText, h0] <;> rfl)
theorem u_i_listText (k : Nat) (a0 : List Int) : runX (c_i_listText k) fin_i_listText k 218 [argV (.slice 3 (.int .i64)) a0] ms0 = g_i_listText k (V0_i_listText k k) a0 := by kernel_rfl
theorem r_i_listText (k : Nat) (a0 : List Int) : runX (c_i_listText k) fin_i_listText k 218 [argV (.slice 3 (.int .i64)) a0] ms0 = i_listText k a0 := by rw [u_i_listText, show V0_i_listText k k = l0_i_listText k k from (e_i_listText k k)] <;> rfl
noncomputable def sp_i_listText (k : Nat) : Spec := .imm (.slice 3 (.int .i64)) fun (a0 : List Int) => .body (i_listText k a0) (outV [.str] [])
noncomputable def c_i_mainText (k : Nat) : Cfg := { eqs := [], tab := [(3, (.int .i64)), (5, (.int .u8)), (9, .str), (22, (.slice 3 (.int .i64))), (24, yEvent), (53, (.slice 5 (.int .u8)))], spec := [(217, sp_i_ShortText k), (218, sp_i_listText k)], mspec := [], inl := [(124, Try.f124)], keep := [], join := [], hold := [], ptrs := [], maps := [], fuel := k }
noncomputable def fin_i_mainText : VV → Ms → Option ByteArray := finV [.str] []
theorem r_i_mainText (k : Nat) (a0 : TEvent) : runX (c_i_mainText k) fin_i_mainText k 124 [argV yEvent a0] ms0 = i_mainText k a0 := by kernel_rfl
noncomputable def sp_i_mainText (k : Nat) : Spec := .imm yEvent fun (a0 : TEvent) => .body (i_mainText k a0) (outV [.str] [])
noncomputable def c_i_EventText (k : Nat) : Cfg := { eqs := [], tab := [(3, (.int .i64)), (22, (.slice 3 (.int .i64))), (24, yEvent)], spec := [(30, sp_i_EventOk k), (122, sp_i_VarText k), (123, sp_i_vars k), (124, sp_i_mainText k)], mspec := [], inl := [(27, Try.f27)], keep := [], join := [], hold := [], ptrs := [], maps := [], fuel := k }
noncomputable def fin_i_EventText : VV → Ms → Option (ByteArray × Bool) := finV [.str, .bool] []
theorem r_i_EventText (k : Nat) (a0 : TEvent) : runX (c_i_EventText k) fin_i_EventText k 27 [argV yEvent a0] ms0 = i_EventText k a0 := by kernel_rfl
noncomputable def sp_i_EventText (k : Nat) : Spec := .imm yEvent fun (a0 : TEvent) => .body (i_EventText k a0) (outV [.str, .bool] [])
noncomputable def c_i_ReadVar (k : Nat) : Cfg := { eqs := [], tab := [(3, (.int .i64)), (5, (.int .u8)), (9, .str)], spec := [(122, sp_i_VarText k), (129, sp_i_within k)], mspec := [], inl := [(195, Try.f195)], keep := [(19500001005, [0, 1, 7, 8])], join := [], hold := [], ptrs := [], maps := [], fuel := k }
noncomputable def fin_i_ReadVar : VV → Ms → Option (Int × Int × Bool) := finV [(.int .i64), (.int .i64), .bool] []
noncomputable def V0_i_ReadVar (k n : Nat) (a0 : ByteArray) (a1 : Int) (v1 : Int) (v2 : Int) : Option (Int × Int × Bool) := lpN (c_i_ReadVar k) fin_i_ReadVar n true 19500001005 (cd [1, 1, 1, 0, 1, 0, 0] (bo Try.f195)) [.b 0, .s (cd [1, 1, 1, 1] (bo Try.f195)), .fn Try.f195] ⟨⟨(mkT 63 0 [(0, one (.str a0)), (1, one (.int .i64 a1)), (7, one (.int .i64 v1)), (8, one (.int .i64 v2))]), []⟩, 19500001000, 1, [(0, (mkT 0 0 []))]⟩
theorem t0_i_ReadVar (k n : Nat) (a0 : ByteArray) (a1 : Int) (v1 : Int) (v2 : Int) : V0_i_ReadVar k (n + 1) a0 a1 v1 v2 = b0_i_ReadVar k (V0_i_ReadVar k n) a0 a1 v1 v2 := by kernel_rfl
theorem e_i_ReadVar (k : Nat) : ∀ n : Nat, V0_i_ReadVar k n = l0_i_ReadVar k n
  | 0 => (by funext a0 a1 v1 v2; rfl)
  | n + 1 => by
    obtain h0 := e_i_ReadVar k n
    exact (by funext a0 a1 v1 v2; rw [t0_i_ReadVar, h0] <;> rfl)
theorem u_i_ReadVar (k : Nat) (a0 : ByteArray) (a1 : Int) : runX (c_i_ReadVar k) fin_i_ReadVar k 195 [argV .str a0, argV (.int .i64) a1] ms0 = g_i_ReadVar k (V0_i_ReadVar k k) a0 a1 := by kernel_rfl
theorem r_i_ReadVar (k : Nat) (a0 : ByteArray) (a1 : Int) : runX (c_i_ReadVar k) fin_i_ReadVar k 195 [argV .str a0, argV (.int .i64) a1] ms0 = i_ReadVar k a0 a1 := by rw [u_i_ReadVar, show V0_i_ReadVar k k = l0_i_ReadVar k k from (e_i_ReadVar k k)] <;> rfl
noncomputable def sp_i_ReadVar (k : Nat) : Spec := .imm .str fun (a0 : ByteArray) => .imm (.int .i64) fun (a1 : Int) => .body (i_ReadVar k a0 a1) (outV [(.int .i64), (.int .i64), .bool] [])
noncomputable def c_i_reader_num (k : Nat) : Cfg := { eqs := [], tab := [(3, (.int .i64)), (4, .bool), (9, .str), (140, yL05Cur)], spec := [(195, sp_i_ReadVar k)], mspec := [], inl := [(103, Try.f103)], keep := [], join := [], hold := [], ptrs := [], maps := [], fuel := k }
noncomputable def fin_i_reader_num : VV → Ms → Option (Int × TL05Cur × Unit) := finM [(.int .i64)] [] [.box yL05Cur]
theorem r_i_reader_num (k : Nat) (a0 : TL05Cur) : runX (c_i_reader_num k) fin_i_reader_num k 103 (pArgsV 1 [.box yL05Cur] (a0, ())) (ms1 [.box yL05Cur] (a0, ())) = i_reader_num k a0 := by kernel_rfl
noncomputable def sp_i_reader_num (k : Nat) : MSpec := .box yL05Cur fun (a0 : TL05Cur) => .body (i_reader_num k a0) (fun r => outV [(.int .i64)] [] r.1) (fun r => poV [.box yL05Cur] r.2)
noncomputable def c_i_reader_byte (k : Nat) : Cfg := { eqs := [], tab := [(3, (.int .i64)), (4, .bool), (5, (.int .u8)), (9, .str), (140, yL05Cur)], spec := [], mspec := [], inl := [(102, Try.f102)], keep := [], join := [], hold := [], ptrs := [], maps := [], fuel := k }
noncomputable def fin_i_reader_byte : VV → Ms → Option (Int × TL05Cur × Unit) := finM [(.int .i64)] [] [.box yL05Cur]
theorem r_i_reader_byte (k : Nat) (a0 : TL05Cur) : runX (c_i_reader_byte k) fin_i_reader_byte k 102 (pArgsV 1 [.box yL05Cur] (a0, ())) (ms1 [.box yL05Cur] (a0, ())) = i_reader_byte k a0 := by kernel_rfl
noncomputable def sp_i_reader_byte (k : Nat) : MSpec := .box yL05Cur fun (a0 : TL05Cur) => .body (i_reader_byte k a0) (fun r => outV [(.int .i64)] [] r.1) (fun r => poV [.box yL05Cur] r.2)
noncomputable def c_i_ReadShort (k : Nat) : Cfg := { eqs := [], tab := [(9, .str)], spec := [(195, sp_i_ReadVar k)], mspec := [], inl := [(197, Try.f197)], keep := [], join := [], hold := [], ptrs := [], maps := [], fuel := k }
noncomputable def fin_i_ReadShort : VV → Ms → Option (ByteArray × Int × Bool) := finV [.str, (.int .i64), .bool] []
theorem r_i_ReadShort (k : Nat) (a0 : ByteArray) (a1 : Int) : runX (c_i_ReadShort k) fin_i_ReadShort k 197 [argV .str a0, argV (.int .i64) a1] ms0 = i_ReadShort k a0 a1 := by kernel_rfl
noncomputable def sp_i_ReadShort (k : Nat) : Spec := .imm .str fun (a0 : ByteArray) => .imm (.int .i64) fun (a1 : Int) => .body (i_ReadShort k a0 a1) (outV [.str, (.int .i64), .bool] [])
noncomputable def c_i_reader_text (k : Nat) : Cfg := { eqs := [], tab := [(3, (.int .i64)), (4, .bool), (9, .str), (140, yL05Cur)], spec := [(197, sp_i_ReadShort k)], mspec := [], inl := [(105, Try.f105)], keep := [], join := [], hold := [], ptrs := [], maps := [], fuel := k }
noncomputable def fin_i_reader_text : VV → Ms → Option (ByteArray × TL05Cur × Unit) := finM [.str] [] [.box yL05Cur]
theorem r_i_reader_text (k : Nat) (a0 : TL05Cur) : runX (c_i_reader_text k) fin_i_reader_text k 105 (pArgsV 1 [.box yL05Cur] (a0, ())) (ms1 [.box yL05Cur] (a0, ())) = i_reader_text k a0 := by kernel_rfl
noncomputable def sp_i_reader_text (k : Nat) : MSpec := .box yL05Cur fun (a0 : TL05Cur) => .body (i_reader_text k a0) (fun r => outV [.str] [] r.1) (fun r => poV [.box yL05Cur] r.2)
noncomputable def c_i_reader_main (k : Nat) : Cfg := { eqs := [], tab := [(4, .bool), (9, .str), (22, (.slice 3 (.int .i64))), (24, yEvent), (140, yL05Cur)], spec := [], mspec := [(102, sp_i_reader_byte k), (103, sp_i_reader_num k), (105, sp_i_reader_text k)], inl := [(104, Try.f104), (125, Try.f125), (196, Try.f196)], keep := [(12500002002, [0, 1, 4, 5])], join := [], hold := [], ptrs := [138], maps := [], fuel := k }
noncomputable def fin_i_reader_main : VV → Ms → Option (TEvent × TL05Cur × Unit) := finM [yEvent] [true, true] [.box yL05Cur]
noncomputable def V1_i_reader_main (k n : Nat) (r5 : Int × TL05Cur × Unit) (v1 : Int) (v2 : ByteArray) (v3 : Int) (v4 : Bool) (r1 : Int × TL05Cur × Unit) (r2 : Int × TL05Cur × Unit) (r3 : Int × TL05Cur × Unit) (r4 : Int × TL05Cur × Unit) (xs5 : List Int) : Option (TEvent × TL05Cur × Unit) := lpN (c_i_reader_main k) fin_i_reader_main n true 12500002002 (cd [1, 1, 0, 0] (bo Try.f125)) [.b 0, .fn Try.f125, .op (rg (cd [1, 1, 0] (bo Try.f104))) ((rg (cd [1, 1, 0] (bo Try.f104))).drop 3) 3 (some 15), .s (cd [1, 1, 1] (bo Try.f104)), .fn Try.f104] ⟨⟨(mkT 22 0 [(0, one (.ptr 9000000 0)), (1, one (.fn 196 [9000001, 9000002])), (4, one (.int .i64 r5.1)), (5, one (.int .i64 v1))]), [(9000000, .box [.str v2, .int .i64 v3, .bool v4]), (9000001, .box [.int .i64 0, .int .i64 r1.1, .int .i64 r2.1, .int .i64 r3.1, .int .i64 r4.1, .row 9000004 none none, .str ByteArray.empty, .nilS, .int .i64 0]), (9000002, .box [.ptr 9000000 0]), (9000003, .box [.int .i64 0, .int .i64 0, .int .i64 0, .int .i64 0, .int .i64 0, .nilS, .str ByteArray.empty, .nilS, .int .i64 0]), (9000004, .row 3 (.int .i64) xs5 true)]⟩, 12500002000, 2, [(10400001000, (mkT 20 0 [(0, one (.ptr 9000000 0)), (1, one (.ptr 9000002 0)), (2, one (.ptr 9000003 0)), (3, one (.ptr 9000001 0)), (4, one (.ptr 9000000 0)), (5, one (.int .i64 r1.1)), (6, one (.ptr 9000000 0)), (7, one (.int .i64 r2.1)), (8, one (.ptr 9000000 0)), (9, one (.int .i64 r3.1)), (10, one (.ptr 9000000 0)), (11, one (.int .i64 r4.1)), (12, .v ⟨true, [.int .i64 0, .int .i64 r1.1, .int .i64 r2.1, .int .i64 r3.1, .int .i64 r4.1, .nilS, .str ByteArray.empty, .nilS, .int .i64 0]⟩), (13, one (.ptr 9000000 0)), (14, one (.fn 196 [9000001, 9000002]))])), (0, (mkT 1 0 [(0, one (.ptr 9000000 0))]))]⟩
noncomputable def V0_i_reader_main (k n : Nat) (r5 : Int × TL05Cur × Unit) (r1 : Int × TL05Cur × Unit) (r2 : Int × TL05Cur × Unit) (r3 : Int × TL05Cur × Unit) (r4 : Int × TL05Cur × Unit) : Option (TEvent × TL05Cur × Unit) := lpN (c_i_reader_main k) fin_i_reader_main n true 12500002002 (cd [1, 1, 0, 0] (bo Try.f125)) [.b 0, .fn Try.f125, .op (rg (cd [1, 1, 0] (bo Try.f104))) ((rg (cd [1, 1, 0] (bo Try.f104))).drop 3) 3 (some 15), .s (cd [1, 1, 1] (bo Try.f104)), .fn Try.f104] ⟨⟨(mkT 22 0 [(0, one (.ptr 9000000 0)), (1, one (.fn 196 [9000001, 9000002])), (4, one (.int .i64 r5.1)), (5, one (.int .i64 0))]), [(9000000, .box [.str r5.2.1.1, .int .i64 r5.2.1.2.1, .bool r5.2.1.2.2.1]), (9000001, .box [.int .i64 0, .int .i64 r1.1, .int .i64 r2.1, .int .i64 r3.1, .int .i64 r4.1, .nilS, .str ByteArray.empty, .nilS, .int .i64 0]), (9000002, .box [.ptr 9000000 0]), (9000003, .box [.int .i64 0, .int .i64 0, .int .i64 0, .int .i64 0, .int .i64 0, .nilS, .str ByteArray.empty, .nilS, .int .i64 0])]⟩, 12500002000, 2, [(10400001000, (mkT 20 0 [(0, one (.ptr 9000000 0)), (1, one (.ptr 9000002 0)), (2, one (.ptr 9000003 0)), (3, one (.ptr 9000001 0)), (4, one (.ptr 9000000 0)), (5, one (.int .i64 r1.1)), (6, one (.ptr 9000000 0)), (7, one (.int .i64 r2.1)), (8, one (.ptr 9000000 0)), (9, one (.int .i64 r3.1)), (10, one (.ptr 9000000 0)), (11, one (.int .i64 r4.1)), (12, .v ⟨true, [.int .i64 0, .int .i64 r1.1, .int .i64 r2.1, .int .i64 r3.1, .int .i64 r4.1, .nilS, .str ByteArray.empty, .nilS, .int .i64 0]⟩), (13, one (.ptr 9000000 0)), (14, one (.fn 196 [9000001, 9000002]))])), (0, (mkT 1 0 [(0, one (.ptr 9000000 0))]))]⟩
theorem t1_i_reader_main (k n : Nat) (r5 : Int × TL05Cur × Unit) (v1 : Int) (v2 : ByteArray) (v3 : Int) (v4 : Bool) (r1 : Int × TL05Cur × Unit) (r2 : Int × TL05Cur × Unit) (r3 : Int × TL05Cur × Unit) (r4 : Int × TL05Cur × Unit) (xs5 : List Int) : V1_i_reader_main k (n + 1) r5 v1 v2 v3 v4 r1 r2 r3 r4 xs5 = b1_i_reader_main k (V1_i_reader_main k n) r5 v1 v2 v3 v4 r1 r2 r3 r4 xs5 := by kernel_rfl
theorem t0_i_reader_main (k n : Nat) (r5 : Int × TL05Cur × Unit) (r1 : Int × TL05Cur × Unit) (r2 : Int × TL05Cur × Unit) (r3 : Int × TL05Cur × Unit) (r4 : Int × TL05Cur × Unit) : V0_i_reader_main k (n + 1) r5 r1 r2 r3 r4 = b0_i_reader_main k (V1_i_reader_main k n) r5 r1 r2 r3 r4 := by kernel_rfl
theorem e_i_reader_main (k : Nat) : ∀ n : Nat, V1_i_reader_main k n = l1_i_reader_main k n ∧ V0_i_reader_main k n = l0_i_reader_main k n
  | 0 => ⟨(by funext r5 v1 v2 v3 v4 r1 r2 r3 r4 xs5; rfl), (by funext r5 r1 r2 r3 r4; rfl)⟩
  | n + 1 => by
    obtain ⟨h1, h0⟩ := e_i_reader_main k n
    exact ⟨(by funext r5 v1 v2 v3 v4 r1 r2 r3 r4 xs5; rw [t1_i_reader_main, h1] <;> rfl), (by funext r5 r1 r2 r3 r4; rw [t0_i_reader_main, h1] <;> rfl)⟩
theorem u_i_reader_main (k : Nat) (a0 : TL05Cur) : runX (c_i_reader_main k) fin_i_reader_main k 104 (pArgsV 1 [.box yL05Cur] (a0, ())) (ms1 [.box yL05Cur] (a0, ())) = g_i_reader_main k (V0_i_reader_main k k) a0 := by kernel_rfl
theorem r_i_reader_main (k : Nat) (a0 : TL05Cur) : runX (c_i_reader_main k) fin_i_reader_main k 104 (pArgsV 1 [.box yL05Cur] (a0, ())) (ms1 [.box yL05Cur] (a0, ())) = i_reader_main k a0 := by rw [u_i_reader_main, show V0_i_reader_main k k = l0_i_reader_main k k from (e_i_reader_main k k).2] <;> rfl
noncomputable def sp_i_reader_main (k : Nat) : MSpec := .box yL05Cur fun (a0 : TL05Cur) => .body (i_reader_main k a0) (fun r => outV [yEvent] [true, true] r.1) (fun r => poV [.box yL05Cur] r.2)
noncomputable def c_i_reader_done (k : Nat) : Cfg := { eqs := [], tab := [(3, (.int .i64)), (4, .bool), (9, .str), (140, yL05Cur)], spec := [], mspec := [], inl := [(106, Try.f106)], keep := [], join := [], hold := [], ptrs := [], maps := [], fuel := k }
noncomputable def fin_i_reader_done : VV → Ms → Option (Bool × TL05Cur × Unit) := finM [.bool] [] [.box yL05Cur]
theorem r_i_reader_done (k : Nat) (a0 : TL05Cur) : runX (c_i_reader_done k) fin_i_reader_done k 106 (pArgsV 1 [.box yL05Cur] (a0, ())) (ms1 [.box yL05Cur] (a0, ())) = i_reader_done k a0 := by kernel_rfl
noncomputable def sp_i_reader_done (k : Nat) : MSpec := .box yL05Cur fun (a0 : TL05Cur) => .body (i_reader_done k a0) (fun r => outV [.bool] [] r.1) (fun r => poV [.box yL05Cur] r.2)
noncomputable def c_i_ReadEvent (k : Nat) : Cfg := { eqs := [], tab := [(3, (.int .i64)), (4, .bool), (22, (.slice 3 (.int .i64))), (24, yEvent), (140, yL05Cur)], spec := [(30, sp_i_EventOk k)], mspec := [(103, sp_i_reader_num k), (104, sp_i_reader_main k), (106, sp_i_reader_done k)], inl := [(28, Try.f28), (125, Try.f125), (126, Try.f126)], keep := [(12500002002, [0, 1, 4, 5])], join := [], hold := [], ptrs := [138], maps := [], fuel := k }
noncomputable def fin_i_ReadEvent : VV → Ms → Option (TEvent × Bool) := finV [yEvent, .bool] [true, true]
noncomputable def V1_i_ReadEvent (k n : Nat) (r3 : Int × TL05Cur × Unit) (v1 : Int) (v2 : ByteArray) (v3 : Int) (v4 : Bool) (r1 : Int × TL05Cur × Unit) (r2 : TEvent × TL05Cur × Unit) (xs5 : List Int) (a0 : ByteArray) : Option (TEvent × Bool) := lpN (c_i_ReadEvent k) fin_i_ReadEvent n true 12500002002 (cd [1, 1, 0, 0] (bo Try.f125)) [.b 0, .fn Try.f125, .op (rg (cd [1, 1, 1, 1, 1, 0] (bo Try.f28))) ((rg (cd [1, 1, 1, 1, 1, 0] (bo Try.f28))).drop 3) 3 (some 18), .s (cd [1, 1, 1, 1, 1, 1] (bo Try.f28)), .fn Try.f28] ⟨⟨(mkT 22 0 [(0, one (.ptr 9000000 0)), (1, one (.fn 126 [9000001, 9000002])), (4, one (.int .i64 r3.1)), (5, one (.int .i64 v1))]), [(9000000, .box [.str v2, .int .i64 v3, .bool v4]), (9000001, .box [.int .i64 r1.1, .int .i64 r2.1.2.1, .int .i64 r2.1.2.2.1, .int .i64 r2.1.2.2.2.1, .int .i64 r2.1.2.2.2.2.1, .row 9000004 none none, .str r2.1.2.2.2.2.2.2.1, .row 9000006 none none, .int .i64 r2.1.2.2.2.2.2.2.2.2.1]), (9000002, .box [.ptr 9000000 0]), (9000003, .box [.int .i64 0, .int .i64 0, .int .i64 0, .int .i64 0, .int .i64 0, .nilS, .str ByteArray.empty, .nilS, .int .i64 0]), (9000004, .row 3 (.int .i64) r2.1.2.2.2.2.2.1 true), (9000005, .dead), (9000006, .row 3 (.int .i64) xs5 true)]⟩, 12500002000, 2, [(2800001000, (mkT 32 0 [(0, one (.str a0)), (2, one (.ptr 9000003 0)), (3, one (.bool false)), (4, one (.ptr 9000002 0)), (5, one (.int .i64 r1.1)), (6, one (.ptr 9000001 0)), (7, one (.str a0)), (8, .v ⟨true, [.str a0, .int .i64 0, .bool false]⟩), (9, one (.ptr 9000000 0)), (10, one (.ptr 9000000 0)), (11, one (.int .i64 r1.1)), (12, one (.ptr 9000000 0)), (13, .v ⟨true, [.int .i64 r2.1.1, .int .i64 r2.1.2.1, .int .i64 r2.1.2.2.1, .int .i64 r2.1.2.2.2.1, .int .i64 r2.1.2.2.2.2.1, .row 9000004 none none, .str r2.1.2.2.2.2.2.2.1, .row 9000005 none none, .int .i64 r2.1.2.2.2.2.2.2.2.2.1]⟩), (14, one (.int .i64 r1.1)), (15, one (.ptr 9000001 0)), (16, one (.ptr 9000000 0)), (17, one (.fn 126 [9000001, 9000002]))])), (0, (mkT 0 0 []))]⟩
noncomputable def V0_i_ReadEvent (k n : Nat) (r3 : Int × TL05Cur × Unit) (r1 : Int × TL05Cur × Unit) (r2 : TEvent × TL05Cur × Unit) (a0 : ByteArray) : Option (TEvent × Bool) := lpN (c_i_ReadEvent k) fin_i_ReadEvent n true 12500002002 (cd [1, 1, 0, 0] (bo Try.f125)) [.b 0, .fn Try.f125, .op (rg (cd [1, 1, 1, 1, 1, 0] (bo Try.f28))) ((rg (cd [1, 1, 1, 1, 1, 0] (bo Try.f28))).drop 3) 3 (some 18), .s (cd [1, 1, 1, 1, 1, 1] (bo Try.f28)), .fn Try.f28] ⟨⟨(mkT 22 0 [(0, one (.ptr 9000000 0)), (1, one (.fn 126 [9000001, 9000002])), (4, one (.int .i64 r3.1)), (5, one (.int .i64 0))]), [(9000000, .box [.str r3.2.1.1, .int .i64 r3.2.1.2.1, .bool r3.2.1.2.2.1]), (9000001, .box [.int .i64 r1.1, .int .i64 r2.1.2.1, .int .i64 r2.1.2.2.1, .int .i64 r2.1.2.2.2.1, .int .i64 r2.1.2.2.2.2.1, .row 9000004 none none, .str r2.1.2.2.2.2.2.2.1, .row 9000005 none none, .int .i64 r2.1.2.2.2.2.2.2.2.2.1]), (9000002, .box [.ptr 9000000 0]), (9000003, .box [.int .i64 0, .int .i64 0, .int .i64 0, .int .i64 0, .int .i64 0, .nilS, .str ByteArray.empty, .nilS, .int .i64 0]), (9000004, .row 3 (.int .i64) r2.1.2.2.2.2.2.1 true), (9000005, .row 3 (.int .i64) r2.1.2.2.2.2.2.2.2.1 true)]⟩, 12500002000, 2, [(2800001000, (mkT 32 0 [(0, one (.str a0)), (2, one (.ptr 9000003 0)), (3, one (.bool false)), (4, one (.ptr 9000002 0)), (5, one (.int .i64 r1.1)), (6, one (.ptr 9000001 0)), (7, one (.str a0)), (8, .v ⟨true, [.str a0, .int .i64 0, .bool false]⟩), (9, one (.ptr 9000000 0)), (10, one (.ptr 9000000 0)), (11, one (.int .i64 r1.1)), (12, one (.ptr 9000000 0)), (13, .v ⟨true, [.int .i64 r2.1.1, .int .i64 r2.1.2.1, .int .i64 r2.1.2.2.1, .int .i64 r2.1.2.2.2.1, .int .i64 r2.1.2.2.2.2.1, .row 9000004 none none, .str r2.1.2.2.2.2.2.2.1, .row 9000005 none none, .int .i64 r2.1.2.2.2.2.2.2.2.2.1]⟩), (14, one (.int .i64 r1.1)), (15, one (.ptr 9000001 0)), (16, one (.ptr 9000000 0)), (17, one (.fn 126 [9000001, 9000002]))])), (0, (mkT 0 0 []))]⟩
theorem t1_i_ReadEvent (k n : Nat) (r3 : Int × TL05Cur × Unit) (v1 : Int) (v2 : ByteArray) (v3 : Int) (v4 : Bool) (r1 : Int × TL05Cur × Unit) (r2 : TEvent × TL05Cur × Unit) (xs5 : List Int) (a0 : ByteArray) : V1_i_ReadEvent k (n + 1) r3 v1 v2 v3 v4 r1 r2 xs5 a0 = b1_i_ReadEvent k (V1_i_ReadEvent k n) r3 v1 v2 v3 v4 r1 r2 xs5 a0 := by kernel_rfl
theorem t0_i_ReadEvent (k n : Nat) (r3 : Int × TL05Cur × Unit) (r1 : Int × TL05Cur × Unit) (r2 : TEvent × TL05Cur × Unit) (a0 : ByteArray) : V0_i_ReadEvent k (n + 1) r3 r1 r2 a0 = b0_i_ReadEvent k (V1_i_ReadEvent k n) r3 r1 r2 a0 := by kernel_rfl
theorem e_i_ReadEvent (k : Nat) : ∀ n : Nat, V1_i_ReadEvent k n = l1_i_ReadEvent k n ∧ V0_i_ReadEvent k n = l0_i_ReadEvent k n
  | 0 => ⟨(by funext r3 v1 v2 v3 v4 r1 r2 xs5 a0; rfl), (by funext r3 r1 r2 a0; rfl)⟩
  | n + 1 => by
    obtain ⟨h1, h0⟩ := e_i_ReadEvent k n
    exact ⟨(by funext r3 v1 v2 v3 v4 r1 r2 xs5 a0; rw [t1_i_ReadEvent, h1] <;> rfl), (by funext r3 r1 r2 a0; rw [t0_i_ReadEvent, h1] <;> rfl)⟩
theorem u_i_ReadEvent (k : Nat) (a0 : ByteArray) : runX (c_i_ReadEvent k) fin_i_ReadEvent k 28 [argV .str a0] ms0 = g_i_ReadEvent k (V0_i_ReadEvent k k) a0 := by kernel_rfl
theorem r_i_ReadEvent (k : Nat) (a0 : ByteArray) : runX (c_i_ReadEvent k) fin_i_ReadEvent k 28 [argV .str a0] ms0 = i_ReadEvent k a0 := by rw [u_i_ReadEvent, show V0_i_ReadEvent k k = l0_i_ReadEvent k k from (e_i_ReadEvent k k).2] <;> rfl
noncomputable def sp_i_ReadEvent (k : Nat) : Spec := .imm .str fun (a0 : ByteArray) => .body (i_ReadEvent k a0) (outV [yEvent, .bool] [true, true])
noncomputable def c_s_l01In (k : Nat) : Cfg := { eqs := [], tab := [], spec := [], mspec := [], inl := [(128, Try.f128)], keep := [], join := [], hold := [], ptrs := [], maps := [], fuel := k }
noncomputable def fin_s_l01In : VV → Ms → Option Bool := finV [.bool] []
theorem r_s_l01In (k : Nat) (a0 : Int) (a1 : Int) (a2 : Int) : runX (c_s_l01In k) fin_s_l01In k 128 [argV (.int .i64) a0, argV (.int .i64) a1, argV (.int .i64) a2] ms0 = s_l01In k a0 a1 a2 := by kernel_rfl
noncomputable def sp_s_l01In (k : Nat) : Spec := .imm (.int .i64) fun (a0 : Int) => .imm (.int .i64) fun (a1 : Int) => .imm (.int .i64) fun (a2 : Int) => .body (s_l01In k a0 a1 a2) (outV [.bool] [])
noncomputable def c_s_l09Levels (k : Nat) : Cfg := { eqs := [], tab := [(3, (.int .i64)), (22, (.slice 3 (.int .i64)))], spec := [(128, sp_s_l01In k)], mspec := [], inl := [(219, Try.f219)], keep := [(21900001002, [0, 3])], join := [], hold := [], ptrs := [], maps := [], fuel := k }
noncomputable def fin_s_l09Levels : VV → Ms → Option Bool := finV [.bool] []
noncomputable def V0_s_l09Levels (k n : Nat) (a0 : List Int) (v1 : Int) : Option Bool := lpN (c_s_l09Levels k) fin_s_l09Levels n true 21900001002 (cd [1, 0, 1, 0, 0] (bo Try.f219)) [.b 0, .s (cd [1, 1] (bo Try.f219)), .fn Try.f219] ⟨⟨(mkT 19 0 [(0, one (.slc 3 (.int .i64) a0)), (3, one (.int .i64 v1))]), []⟩, 21900001000, 1, [(0, (mkT 0 0 []))]⟩
theorem t0_s_l09Levels (k n : Nat) (a0 : List Int) (v1 : Int) : V0_s_l09Levels k (n + 1) a0 v1 = b0_s_l09Levels k (V0_s_l09Levels k n) a0 v1 := by kernel_rfl
theorem e_s_l09Levels (k : Nat) : ∀ n : Nat, V0_s_l09Levels k n = l0_s_l09Levels k n
  | 0 => (by funext a0 v1; rfl)
  | n + 1 => by
    obtain h0 := e_s_l09Levels k n
    exact (by funext a0 v1; rw [t0_s_l09Levels, h0] <;> rfl)
theorem u_s_l09Levels (k : Nat) (a0 : List Int) : runX (c_s_l09Levels k) fin_s_l09Levels k 219 [argV (.slice 3 (.int .i64)) a0] ms0 = g_s_l09Levels k (V0_s_l09Levels k k) a0 := by kernel_rfl
theorem r_s_l09Levels (k : Nat) (a0 : List Int) : runX (c_s_l09Levels k) fin_s_l09Levels k 219 [argV (.slice 3 (.int .i64)) a0] ms0 = s_l09Levels k a0 := by rw [u_s_l09Levels, show V0_s_l09Levels k k = l0_s_l09Levels k k from (e_s_l09Levels k k)] <;> rfl
noncomputable def sp_s_l09Levels (k : Nat) : Spec := .imm (.slice 3 (.int .i64)) fun (a0 : List Int) => .body (s_l09Levels k a0) (outV [.bool] [])
noncomputable def c_s_l09Body (k : Nat) : Cfg := { eqs := [], tab := [(3, (.int .i64)), (9, .str), (22, (.slice 3 (.int .i64))), (24, yEvent)], spec := [(128, sp_s_l01In k), (219, sp_s_l09Levels k)], mspec := [], inl := [(127, Try.f127)], keep := [], join := [], hold := [], ptrs := [], maps := [], fuel := k }
noncomputable def fin_s_l09Body : VV → Ms → Option Bool := finV [.bool] []
theorem r_s_l09Body (k : Nat) (a0 : TEvent) : runX (c_s_l09Body k) fin_s_l09Body k 127 [argV yEvent a0] ms0 = s_l09Body k a0 := by kernel_rfl
noncomputable def sp_s_l09Body (k : Nat) : Spec := .imm yEvent fun (a0 : TEvent) => .body (s_l09Body k a0) (outV [.bool] [])
noncomputable def c_s_EventOk (k : Nat) : Cfg := { eqs := [], tab := [(3, (.int .i64)), (4, .bool), (22, (.slice 3 (.int .i64))), (24, yEvent)], spec := [(127, sp_s_l09Body k), (128, sp_s_l01In k)], mspec := [], inl := [(29, Try.f29)], keep := [(2900001004, [1, 3])], join := [], hold := [], ptrs := [], maps := [], fuel := k }
noncomputable def fin_s_EventOk : VV → Ms → Option Bool := finV [.bool] []
noncomputable def V0_s_EventOk (k n : Nat) (v1 : Int) (a0 : TEvent) : Option Bool := lpN (c_s_EventOk k) fin_s_EventOk n true 2900001004 (cd [1, 1, 0, 1, 0, 0] (bo Try.f29)) [.b 0, .s (cd [1, 1, 1] (bo Try.f29)), .fn Try.f29] ⟨⟨(mkT 77 0 [(1, one (.ptr 9000000 0)), (3, one (.int .i64 v1))]), [(9000000, .box [.int .i64 a0.1, .int .i64 a0.2.1, .int .i64 a0.2.2.1, .int .i64 a0.2.2.2.1, .int .i64 a0.2.2.2.2.1, .slc 3 (.int .i64) a0.2.2.2.2.2.1, .str a0.2.2.2.2.2.2.1, .slc 3 (.int .i64) a0.2.2.2.2.2.2.2.1, .int .i64 a0.2.2.2.2.2.2.2.2.1])]⟩, 2900001000, 1, [(0, (mkT 0 0 []))]⟩
theorem t0_s_EventOk (k n : Nat) (v1 : Int) (a0 : TEvent) : V0_s_EventOk k (n + 1) v1 a0 = b0_s_EventOk k (V0_s_EventOk k n) v1 a0 := by kernel_rfl
theorem e_s_EventOk (k : Nat) : ∀ n : Nat, V0_s_EventOk k n = l0_s_EventOk k n
  | 0 => (by funext v1 a0; rfl)
  | n + 1 => by
    obtain h0 := e_s_EventOk k n
    exact (by funext v1 a0; rw [t0_s_EventOk, h0] <;> rfl)
theorem u_s_EventOk (k : Nat) (a0 : TEvent) : runX (c_s_EventOk k) fin_s_EventOk k 29 [argV yEvent a0] ms0 = g_s_EventOk k (V0_s_EventOk k k) a0 := by kernel_rfl
theorem r_s_EventOk (k : Nat) (a0 : TEvent) : runX (c_s_EventOk k) fin_s_EventOk k 29 [argV yEvent a0] ms0 = s_EventOk k a0 := by rw [u_s_EventOk, show V0_s_EventOk k k = l0_s_EventOk k k from (e_s_EventOk k k)] <;> rfl
noncomputable def sp_s_EventOk (k : Nat) : Spec := .imm yEvent fun (a0 : TEvent) => .body (s_EventOk k a0) (outV [.bool] [])
noncomputable def c_l_sameInts (k : Nat) : Cfg := { eqs := [], tab := [(3, (.int .i64)), (22, (.slice 3 (.int .i64)))], spec := [], mspec := [], inl := [(43, Try.f43)], keep := [(4300001004, [0, 1, 5])], join := [], hold := [], ptrs := [], maps := [], fuel := k }
noncomputable def fin_l_sameInts : VV → Ms → Option Bool := finV [.bool] []
noncomputable def V0_l_sameInts (k n : Nat) (a0 : List Int) (a1 : List Int) (v1 : Int) : Option Bool := lpN (c_l_sameInts k) fin_l_sameInts n true 4300001004 (cd [1, 1, 0, 1, 0, 0] (bo Try.f43)) [.b 0, .s (cd [1, 1, 1] (bo Try.f43)), .fn Try.f43] ⟨⟨(mkT 26 0 [(0, one (.slc 3 (.int .i64) a0)), (1, one (.slc 3 (.int .i64) a1)), (5, one (.int .i64 v1))]), []⟩, 4300001000, 1, [(0, (mkT 0 0 []))]⟩
theorem t0_l_sameInts (k n : Nat) (a0 : List Int) (a1 : List Int) (v1 : Int) : V0_l_sameInts k (n + 1) a0 a1 v1 = b0_l_sameInts k (V0_l_sameInts k n) a0 a1 v1 := by kernel_rfl
theorem e_l_sameInts (k : Nat) : ∀ n : Nat, V0_l_sameInts k n = l0_l_sameInts k n
  | 0 => (by funext a0 a1 v1; rfl)
  | n + 1 => by
    obtain h0 := e_l_sameInts k n
    exact (by funext a0 a1 v1; rw [t0_l_sameInts, h0] <;> rfl)
theorem u_l_sameInts (k : Nat) (a0 : List Int) (a1 : List Int) : runX (c_l_sameInts k) fin_l_sameInts k 43 [argV (.slice 3 (.int .i64)) a0, argV (.slice 3 (.int .i64)) a1] ms0 = g_l_sameInts k (V0_l_sameInts k k) a0 a1 := by kernel_rfl
theorem r_l_sameInts (k : Nat) (a0 : List Int) (a1 : List Int) : runX (c_l_sameInts k) fin_l_sameInts k 43 [argV (.slice 3 (.int .i64)) a0, argV (.slice 3 (.int .i64)) a1] ms0 = l_sameInts k a0 a1 := by rw [u_l_sameInts, show V0_l_sameInts k k = l0_l_sameInts k k from (e_l_sameInts k k)] <;> rfl
noncomputable def sp_l_sameInts (k : Nat) : Spec := .imm (.slice 3 (.int .i64)) fun (a0 : List Int) => .imm (.slice 3 (.int .i64)) fun (a1 : List Int) => .body (l_sameInts k a0 a1) (outV [.bool] [])
noncomputable def c_l_sameEvent (k : Nat) : Cfg := { eqs := [], tab := [(3, (.int .i64)), (9, .str), (22, (.slice 3 (.int .i64))), (24, yEvent)], spec := [(43, sp_l_sameInts k)], mspec := [], inl := [(31, Try.f31)], keep := [], join := [], hold := [], ptrs := [], maps := [], fuel := k }
noncomputable def fin_l_sameEvent : VV → Ms → Option Bool := finV [.bool] []
theorem r_l_sameEvent (k : Nat) (a0 : TEvent) (a1 : TEvent) : runX (c_l_sameEvent k) fin_l_sameEvent k 31 [argV yEvent a0, argV yEvent a1] ms0 = l_sameEvent k a0 a1 := by kernel_rfl
noncomputable def sp_l_sameEvent (k : Nat) : Spec := .imm yEvent fun (a0 : TEvent) => .imm yEvent fun (a1 : TEvent) => .body (l_sameEvent k a0 a1) (outV [.bool] [])
noncomputable def c_s_l01Var (k : Nat) : Cfg := { eqs := [], tab := [(3, (.int .i64)), (5, (.int .u8)), (9, .str), (53, (.slice 5 (.int .u8)))], spec := [], mspec := [], inl := [(138, Try.f138)], keep := [(13800001002, [0, 3])], join := [], hold := [], ptrs := [], maps := [], fuel := k }
noncomputable def fin_s_l01Var : VV → Ms → Option ByteArray := finV [.str] []
noncomputable def V0_s_l01Var (k n : Nat) (a0 : Int) (xs1 : List Int) : Option ByteArray := lpN (c_s_l01Var k) fin_s_l01Var n true 13800001002 (cd [1, 1, 0, 0, 0] (bo Try.f138)) [.b 0, .s (cd [1, 1, 1] (bo Try.f138)), .fn Try.f138] ⟨⟨(mkT 22 0 [(0, one (.int .i64 a0)), (3, one (.row 9000000 none none))]), [(9000000, .row 5 (.int .u8) xs1 true)]⟩, 13800001000, 1, [(0, (mkT 0 0 []))]⟩
theorem t0_s_l01Var (k n : Nat) (a0 : Int) (xs1 : List Int) : V0_s_l01Var k (n + 1) a0 xs1 = b0_s_l01Var k (V0_s_l01Var k n) a0 xs1 := by kernel_rfl
theorem e_s_l01Var (k : Nat) : ∀ n : Nat, V0_s_l01Var k n = l0_s_l01Var k n
  | 0 => (by funext a0 xs1; rfl)
  | n + 1 => by
    obtain h0 := e_s_l01Var k n
    exact (by funext a0 xs1; rw [t0_s_l01Var, h0] <;> rfl)
theorem u_s_l01Var (k : Nat) (a0 : Int) : runX (c_s_l01Var k) fin_s_l01Var k 138 [argV (.int .i64) a0] ms0 = g_s_l01Var k (V0_s_l01Var k k) a0 := by kernel_rfl
theorem r_s_l01Var (k : Nat) (a0 : Int) : runX (c_s_l01Var k) fin_s_l01Var k 138 [argV (.int .i64) a0] ms0 = s_l01Var k a0 := by rw [u_s_l01Var, show V0_s_l01Var k k = l0_s_l01Var k k from (e_s_l01Var k k)] <;> rfl
noncomputable def sp_s_l01Var (k : Nat) : Spec := .imm (.int .i64) fun (a0 : Int) => .body (s_l01Var k a0) (outV [.str] [])
noncomputable def c_s_l09Byte (k : Nat) : Cfg := { eqs := [], tab := [(3, (.int .i64)), (5, (.int .u8)), (9, .str), (53, (.slice 5 (.int .u8)))], spec := [], mspec := [], inl := [(192, Try.f192)], keep := [], join := [], hold := [], ptrs := [], maps := [], fuel := k }
noncomputable def fin_s_l09Byte : VV → Ms → Option ByteArray := finV [.str] []
theorem r_s_l09Byte (k : Nat) (a0 : Int) : runX (c_s_l09Byte k) fin_s_l09Byte k 192 [argV (.int .i64) a0] ms0 = s_l09Byte k a0 := by kernel_rfl
noncomputable def sp_s_l09Byte (k : Nat) : Spec := .imm (.int .i64) fun (a0 : Int) => .body (s_l09Byte k a0) (outV [.str] [])
noncomputable def c_s_l05Short (k : Nat) : Cfg := { eqs := [], tab := [(9, .str)], spec := [(138, sp_s_l01Var k)], mspec := [], inl := [(194, Try.f194)], keep := [], join := [], hold := [], ptrs := [], maps := [], fuel := k }
noncomputable def fin_s_l05Short : VV → Ms → Option ByteArray := finV [.str] []
theorem r_s_l05Short (k : Nat) (a0 : ByteArray) : runX (c_s_l05Short k) fin_s_l05Short k 194 [argV .str a0] ms0 = s_l05Short k a0 := by kernel_rfl
noncomputable def sp_s_l05Short (k : Nat) : Spec := .imm .str fun (a0 : ByteArray) => .body (s_l05Short k a0) (outV [.str] [])
noncomputable def c_s_l09BodyText (k : Nat) : Cfg := { eqs := [], tab := [(3, (.int .i64)), (9, .str), (22, (.slice 3 (.int .i64))), (24, yEvent)], spec := [(138, sp_s_l01Var k), (192, sp_s_l09Byte k), (194, sp_s_l05Short k)], mspec := [], inl := [(193, Try.f193)], keep := [(19300001003, [1, 3, 4])], join := [], hold := [], ptrs := [], maps := [], fuel := k }
noncomputable def fin_s_l09BodyText : VV → Ms → Option ByteArray := finV [.str] []
noncomputable def V0_s_l09BodyText (k n : Nat) (v1 : ByteArray) (v2 : Int) (a0 : TEvent) : Option ByteArray := lpN (c_s_l09BodyText k) fin_s_l09BodyText n true 19300001003 (cd [1, 1, 0, 1, 0, 0] (bo Try.f193)) [.b 0, .s (cd [1, 1, 1] (bo Try.f193)), .fn Try.f193] ⟨⟨(mkT 45 0 [(1, one (.ptr 9000000 0)), (3, one (.str v1)), (4, one (.int .i64 v2))]), [(9000000, .box [.int .i64 a0.1, .int .i64 a0.2.1, .int .i64 a0.2.2.1, .int .i64 a0.2.2.2.1, .int .i64 a0.2.2.2.2.1, .slc 3 (.int .i64) a0.2.2.2.2.2.1, .str a0.2.2.2.2.2.2.1, .slc 3 (.int .i64) a0.2.2.2.2.2.2.2.1, .int .i64 a0.2.2.2.2.2.2.2.2.1])]⟩, 19300001000, 1, [(0, (mkT 0 0 []))]⟩
theorem t0_s_l09BodyText (k n : Nat) (v1 : ByteArray) (v2 : Int) (a0 : TEvent) : V0_s_l09BodyText k (n + 1) v1 v2 a0 = b0_s_l09BodyText k (V0_s_l09BodyText k n) v1 v2 a0 := by kernel_rfl
theorem e_s_l09BodyText (k : Nat) : ∀ n : Nat, V0_s_l09BodyText k n = l0_s_l09BodyText k n
  | 0 => (by funext v1 v2 a0; rfl)
  | n + 1 => by
    obtain h0 := e_s_l09BodyText k n
    exact (by funext v1 v2 a0; rw [t0_s_l09BodyText, h0] <;> rfl)
theorem u_s_l09BodyText (k : Nat) (a0 : TEvent) : runX (c_s_l09BodyText k) fin_s_l09BodyText k 193 [argV yEvent a0] ms0 = g_s_l09BodyText k (V0_s_l09BodyText k k) a0 := by kernel_rfl
theorem r_s_l09BodyText (k : Nat) (a0 : TEvent) : runX (c_s_l09BodyText k) fin_s_l09BodyText k 193 [argV yEvent a0] ms0 = s_l09BodyText k a0 := by rw [u_s_l09BodyText, show V0_s_l09BodyText k k = l0_s_l09BodyText k k from (e_s_l09BodyText k k)] <;> rfl
noncomputable def sp_s_l09BodyText (k : Nat) : Spec := .imm yEvent fun (a0 : TEvent) => .body (s_l09BodyText k a0) (outV [.str] [])
noncomputable def c_s_EventText (k : Nat) : Cfg := { eqs := [], tab := [(3, (.int .i64)), (22, (.slice 3 (.int .i64))), (24, yEvent)], spec := [(29, sp_s_EventOk k), (138, sp_s_l01Var k), (193, sp_s_l09BodyText k)], mspec := [], inl := [(132, Try.f132)], keep := [(13200001005, [1, 4, 5])], join := [], hold := [], ptrs := [], maps := [], fuel := k }
noncomputable def fin_s_EventText : VV → Ms → Option (ByteArray × Bool) := finV [.str, .bool] []
noncomputable def V0_s_EventText (k n : Nat) (v1 : ByteArray) (v2 : Int) (a0 : TEvent) : Option (ByteArray × Bool) := lpN (c_s_EventText k) fin_s_EventText n true 13200001005 (cd [1, 1, 1, 0, 1, 0, 0] (bo Try.f132)) [.b 0, .s (cd [1, 1, 1, 1] (bo Try.f132)), .fn Try.f132] ⟨⟨(mkT 40 0 [(1, one (.ptr 9000000 0)), (4, one (.str v1)), (5, one (.int .i64 v2))]), [(9000000, .box [.int .i64 a0.1, .int .i64 a0.2.1, .int .i64 a0.2.2.1, .int .i64 a0.2.2.2.1, .int .i64 a0.2.2.2.2.1, .slc 3 (.int .i64) a0.2.2.2.2.2.1, .str a0.2.2.2.2.2.2.1, .slc 3 (.int .i64) a0.2.2.2.2.2.2.2.1, .int .i64 a0.2.2.2.2.2.2.2.2.1])]⟩, 13200001000, 1, [(0, (mkT 0 0 []))]⟩
theorem t0_s_EventText (k n : Nat) (v1 : ByteArray) (v2 : Int) (a0 : TEvent) : V0_s_EventText k (n + 1) v1 v2 a0 = b0_s_EventText k (V0_s_EventText k n) v1 v2 a0 := by kernel_rfl
theorem e_s_EventText (k : Nat) : ∀ n : Nat, V0_s_EventText k n = l0_s_EventText k n
  | 0 => (by funext v1 v2 a0; rfl)
  | n + 1 => by
    obtain h0 := e_s_EventText k n
    exact (by funext v1 v2 a0; rw [t0_s_EventText, h0] <;> rfl)
theorem u_s_EventText (k : Nat) (a0 : TEvent) : runX (c_s_EventText k) fin_s_EventText k 132 [argV yEvent a0] ms0 = g_s_EventText k (V0_s_EventText k k) a0 := by kernel_rfl
theorem r_s_EventText (k : Nat) (a0 : TEvent) : runX (c_s_EventText k) fin_s_EventText k 132 [argV yEvent a0] ms0 = s_EventText k a0 := by rw [u_s_EventText, show V0_s_EventText k k = l0_s_EventText k k from (e_s_EventText k k)] <;> rfl
noncomputable def sp_s_EventText (k : Nat) : Spec := .imm yEvent fun (a0 : TEvent) => .body (s_EventText k a0) (outV [.str, .bool] [])
noncomputable def c_s_l01Text (k : Nat) : Cfg := { eqs := [], tab := [(3, (.int .i64)), (5, (.int .u8)), (9, .str), (53, (.slice 5 (.int .u8)))], spec := [], mspec := [(180, sp_s_l01Byte k)], inl := [(220, Try.f220)], keep := [(22000001005, [0, 1, 5, 6])], join := [], hold := [], ptrs := [], maps := [], fuel := k }
noncomputable def fin_s_l01Text : VV → Ms → Option (ByteArray × TL01Cur × Unit) := finM [.str] [] [.box yL01Cur, .imm (.int .i64)]
noncomputable def V0_s_l01Text (k n : Nat) (v1 : Int) (v2 : Int) (v3 : List Int) (v4 : Int) (v5 : Int) (xs6 : List Int) : Option (ByteArray × TL01Cur × Unit) := lpN (c_s_l01Text k) fin_s_l01Text n true 22000001005 (cd [1, 1, 1, 0, 1, 0, 0] (bo Try.f220)) [.b 0, .s (cd [1, 1, 1, 1] (bo Try.f220)), .fn Try.f220] ⟨⟨(mkT 23 0 [(0, one (.ptr 9000000 0)), (1, one (.int .i64 v1)), (5, one (.row 9000001 none none)), (6, one (.int .i64 v2))]), [(9000000, .box [.slc 5 (.int .u8) v3, .int .i64 v4, .int .i64 v5]), (9000001, .row 5 (.int .u8) xs6 true)]⟩, 22000001000, 1, [(0, (mkT 2 0 [(0, one (.ptr 9000000 0))]))]⟩
theorem t0_s_l01Text (k n : Nat) (v1 : Int) (v2 : Int) (v3 : List Int) (v4 : Int) (v5 : Int) (xs6 : List Int) : V0_s_l01Text k (n + 1) v1 v2 v3 v4 v5 xs6 = b0_s_l01Text k (V0_s_l01Text k n) v1 v2 v3 v4 v5 xs6 := by kernel_rfl
theorem e_s_l01Text (k : Nat) : ∀ n : Nat, V0_s_l01Text k n = l0_s_l01Text k n
  | 0 => (by funext v1 v2 v3 v4 v5 xs6; rfl)
  | n + 1 => by
    obtain h0 := e_s_l01Text k n
    exact (by funext v1 v2 v3 v4 v5 xs6; rw [t0_s_l01Text, h0] <;> rfl)
theorem u_s_l01Text (k : Nat) (a0 : TL01Cur) (a1 : Int) : runX (c_s_l01Text k) fin_s_l01Text k 220 (pArgsV 1 [.box yL01Cur, .imm (.int .i64)] (a0, a1, ())) (ms1 [.box yL01Cur, .imm (.int .i64)] (a0, a1, ())) = g_s_l01Text k (V0_s_l01Text k k) a0 a1 := by kernel_rfl
theorem r_s_l01Text (k : Nat) (a0 : TL01Cur) (a1 : Int) : runX (c_s_l01Text k) fin_s_l01Text k 220 (pArgsV 1 [.box yL01Cur, .imm (.int .i64)] (a0, a1, ())) (ms1 [.box yL01Cur, .imm (.int .i64)] (a0, a1, ())) = s_l01Text k a0 a1 := by rw [u_s_l01Text, show V0_s_l01Text k k = l0_s_l01Text k k from (e_s_l01Text k k)] <;> rfl
noncomputable def sp_s_l01Text (k : Nat) : MSpec := .box yL01Cur fun (a0 : TL01Cur) => .imm (.int .i64) fun (a1 : Int) => .body (s_l01Text k a0 a1) (fun r => outV [.str] [] r.1) (fun r => poV [.box yL01Cur, .imm (.int .i64)] r.2)
noncomputable def c_s_l02Spoilt (k : Nat) : Cfg := { eqs := [], tab := [(9, .str)], spec := [], mspec := [(172, sp_s_l01Below k), (220, sp_s_l01Text k)], inl := [(133, Try.f133)], keep := [], join := [], hold := [], ptrs := [], maps := [], fuel := k }
noncomputable def fin_s_l02Spoilt : VV → Ms → Option (ByteArray × TL01Cur × Unit) := finM [.str] [] [.box yL01Cur, .imm .str]
theorem r_s_l02Spoilt (k : Nat) (a0 : TL01Cur) (a1 : ByteArray) : runX (c_s_l02Spoilt k) fin_s_l02Spoilt k 133 (pArgsV 1 [.box yL01Cur, .imm .str] (a0, a1, ())) (ms1 [.box yL01Cur, .imm .str] (a0, a1, ())) = s_l02Spoilt k a0 a1 := by kernel_rfl
noncomputable def sp_s_l02Spoilt (k : Nat) : MSpec := .box yL01Cur fun (a0 : TL01Cur) => .imm .str fun (a1 : ByteArray) => .body (s_l02Spoilt k a0 a1) (fun r => outV [.str] [] r.1) (fun r => poV [.box yL01Cur, .imm .str] r.2)
noncomputable def c_s_DrawReadEvent (k : Nat) : Cfg := { eqs := [], tab := [(3, (.int .i64)), (5, (.int .u8)), (53, (.slice 5 (.int .u8))), (218, yL01Cur)], spec := [(132, sp_s_EventText k)], mspec := [(120, sp_s_l09Any k), (133, sp_s_l02Spoilt k)], inl := [(32, Try.f32), (121, Try.f121)], keep := [(12100002003, [0, 3, 4])], join := [], hold := [], ptrs := [], maps := [], fuel := k }
noncomputable def fin_s_DrawReadEvent : VV → Ms → Option ByteArray := finV [.str] []
noncomputable def V0_s_DrawReadEvent (k n : Nat) (a0 : List Int) (v1 : Int) (v2 : Int) : Option ByteArray := lpN (c_s_DrawReadEvent k) fin_s_DrawReadEvent n true 12100002003 (cd [1, 1, 0, 1, 0, 0] (bo Try.f121)) [.b 0, .s (cd [1, 1, 1] (bo Try.f121)), .fn Try.f121, .op (rg (cd [1, 0] (bo Try.f32))) ((rg (cd [1, 0] (bo Try.f32))).drop 2) 2 (some 7), .s (cd [1, 1] (bo Try.f32)), .fn Try.f32] ⟨⟨(mkT 32 0 [(0, one (.slc 5 (.int .u8) a0)), (3, one (.int .i64 v1)), (4, one (.int .i64 v2))]), []⟩, 12100002000, 2, [(3200001000, (mkT 17 0 [(0, one (.slc 5 (.int .u8) a0)), (2, one (.str (⟨#[]⟩ : ByteArray))), (6, one (.slc 5 (.int .u8) a0))])), (0, (mkT 0 0 []))]⟩
theorem t0_s_DrawReadEvent (k n : Nat) (a0 : List Int) (v1 : Int) (v2 : Int) : V0_s_DrawReadEvent k (n + 1) a0 v1 v2 = b0_s_DrawReadEvent k (V0_s_DrawReadEvent k n) a0 v1 v2 := by kernel_rfl
theorem e_s_DrawReadEvent (k : Nat) : ∀ n : Nat, V0_s_DrawReadEvent k n = l0_s_DrawReadEvent k n
  | 0 => (by funext a0 v1 v2; rfl)
  | n + 1 => by
    obtain h0 := e_s_DrawReadEvent k n
    exact (by funext a0 v1 v2; rw [t0_s_DrawReadEvent, h0] <;> rfl)
theorem u_s_DrawReadEvent (k : Nat) (a0 : List Int) : runX (c_s_DrawReadEvent k) fin_s_DrawReadEvent k 32 [argV (.slice 5 (.int .u8)) a0] ms0 = g_s_DrawReadEvent k (V0_s_DrawReadEvent k k) a0 := by kernel_rfl
theorem r_s_DrawReadEvent (k : Nat) (a0 : List Int) : runX (c_s_DrawReadEvent k) fin_s_DrawReadEvent k 32 [argV (.slice 5 (.int .u8)) a0] ms0 = s_DrawReadEvent k a0 := by rw [u_s_DrawReadEvent, show V0_s_DrawReadEvent k k = l0_s_DrawReadEvent k k from (e_s_DrawReadEvent k k)] <;> rfl
noncomputable def sp_s_DrawReadEvent (k : Nat) : Spec := .imm (.slice 5 (.int .u8)) fun (a0 : List Int) => .body (s_DrawReadEvent k a0) (outV [.str] [])
noncomputable def c_s_l05Take (k : Nat) : Cfg := { eqs := [], tab := [(3, (.int .i64)), (4, .bool), (9, .str), (132, yL05Cur)], spec := [], mspec := [], inl := [(189, Try.f189)], keep := [], join := [], hold := [], ptrs := [], maps := [], fuel := k }
noncomputable def fin_s_l05Take : VV → Ms → Option (ByteArray × TL05Cur × Unit) := finM [.str] [] [.box yL05Cur, .imm (.int .i64)]
theorem r_s_l05Take (k : Nat) (a0 : TL05Cur) (a1 : Int) : runX (c_s_l05Take k) fin_s_l05Take k 189 (pArgsV 1 [.box yL05Cur, .imm (.int .i64)] (a0, a1, ())) (ms1 [.box yL05Cur, .imm (.int .i64)] (a0, a1, ())) = s_l05Take k a0 a1 := by kernel_rfl
noncomputable def sp_s_l05Take (k : Nat) : MSpec := .box yL05Cur fun (a0 : TL05Cur) => .imm (.int .i64) fun (a1 : Int) => .body (s_l05Take k a0 a1) (fun r => outV [.str] [] r.1) (fun r => poV [.box yL05Cur, .imm (.int .i64)] r.2)
noncomputable def c_s_l09One (k : Nat) : Cfg := { eqs := [], tab := [(3, (.int .i64)), (4, .bool), (5, (.int .u8)), (9, .str), (132, yL05Cur)], spec := [], mspec := [(189, sp_s_l05Take k)], inl := [(97, Try.f97)], keep := [], join := [], hold := [], ptrs := [], maps := [], fuel := k }
noncomputable def fin_s_l09One : VV → Ms → Option (Int × TL05Cur × Unit) := finM [(.int .i64)] [] [.box yL05Cur]
theorem r_s_l09One (k : Nat) (a0 : TL05Cur) : runX (c_s_l09One k) fin_s_l09One k 97 (pArgsV 1 [.box yL05Cur] (a0, ())) (ms1 [.box yL05Cur] (a0, ())) = s_l09One k a0 := by kernel_rfl
noncomputable def sp_s_l09One (k : Nat) : MSpec := .box yL05Cur fun (a0 : TL05Cur) => .body (s_l09One k a0) (fun r => outV [(.int .i64)] [] r.1) (fun r => poV [.box yL05Cur] r.2)
noncomputable def c_s_ReadVar (k : Nat) : Cfg := { eqs := [], tab := [(3, (.int .i64)), (5, (.int .u8)), (9, .str)], spec := [(128, sp_s_l01In k), (138, sp_s_l01Var k)], mspec := [], inl := [(190, Try.f190)], keep := [(19000001006, [0, 1, 7, 8, 9])], join := [], hold := [], ptrs := [], maps := [], fuel := k }
noncomputable def fin_s_ReadVar : VV → Ms → Option (Int × Int × Bool) := finV [(.int .i64), (.int .i64), .bool] []
noncomputable def V0_s_ReadVar (k n : Nat) (a0 : ByteArray) (a1 : Int) (v1 : Int) (v2 : Int) (v3 : Int) : Option (Int × Int × Bool) := lpN (c_s_ReadVar k) fin_s_ReadVar n true 19000001006 (cd [1, 1, 1, 1, 0, 1, 0, 0] (bo Try.f190)) [.b 0, .s (cd [1, 1, 1, 1, 1] (bo Try.f190)), .fn Try.f190] ⟨⟨(mkT 58 0 [(0, one (.str a0)), (1, one (.int .i64 a1)), (7, one (.int .i64 v1)), (8, one (.int .i64 v2)), (9, one (.int .i64 v3))]), []⟩, 19000001000, 1, [(0, (mkT 0 0 []))]⟩
theorem t0_s_ReadVar (k n : Nat) (a0 : ByteArray) (a1 : Int) (v1 : Int) (v2 : Int) (v3 : Int) : V0_s_ReadVar k (n + 1) a0 a1 v1 v2 v3 = b0_s_ReadVar k (V0_s_ReadVar k n) a0 a1 v1 v2 v3 := by kernel_rfl
theorem e_s_ReadVar (k : Nat) : ∀ n : Nat, V0_s_ReadVar k n = l0_s_ReadVar k n
  | 0 => (by funext a0 a1 v1 v2 v3; rfl)
  | n + 1 => by
    obtain h0 := e_s_ReadVar k n
    exact (by funext a0 a1 v1 v2 v3; rw [t0_s_ReadVar, h0] <;> rfl)
theorem u_s_ReadVar (k : Nat) (a0 : ByteArray) (a1 : Int) : runX (c_s_ReadVar k) fin_s_ReadVar k 190 [argV .str a0, argV (.int .i64) a1] ms0 = g_s_ReadVar k (V0_s_ReadVar k k) a0 a1 := by kernel_rfl
theorem r_s_ReadVar (k : Nat) (a0 : ByteArray) (a1 : Int) : runX (c_s_ReadVar k) fin_s_ReadVar k 190 [argV .str a0, argV (.int .i64) a1] ms0 = s_ReadVar k a0 a1 := by rw [u_s_ReadVar, show V0_s_ReadVar k k = l0_s_ReadVar k k from (e_s_ReadVar k k)] <;> rfl
noncomputable def sp_s_ReadVar (k : Nat) : Spec := .imm .str fun (a0 : ByteArray) => .imm (.int .i64) fun (a1 : Int) => .body (s_ReadVar k a0 a1) (outV [(.int .i64), (.int .i64), .bool] [])
noncomputable def c_s_l05Var (k : Nat) : Cfg := { eqs := [], tab := [(3, (.int .i64)), (4, .bool), (9, .str), (132, yL05Cur)], spec := [(190, sp_s_ReadVar k)], mspec := [], inl := [(98, Try.f98)], keep := [], join := [], hold := [], ptrs := [], maps := [], fuel := k }
noncomputable def fin_s_l05Var : VV → Ms → Option (Int × TL05Cur × Unit) := finM [(.int .i64)] [] [.box yL05Cur]
theorem r_s_l05Var (k : Nat) (a0 : TL05Cur) : runX (c_s_l05Var k) fin_s_l05Var k 98 (pArgsV 1 [.box yL05Cur] (a0, ())) (ms1 [.box yL05Cur] (a0, ())) = s_l05Var k a0 := by kernel_rfl
noncomputable def sp_s_l05Var (k : Nat) : MSpec := .box yL05Cur fun (a0 : TL05Cur) => .body (s_l05Var k a0) (fun r => outV [(.int .i64)] [] r.1) (fun r => poV [.box yL05Cur] r.2)
noncomputable def c_s_l05ReadShort (k : Nat) : Cfg := { eqs := [], tab := [], spec := [], mspec := [(98, sp_s_l05Var k), (189, sp_s_l05Take k)], inl := [(100, Try.f100)], keep := [], join := [], hold := [], ptrs := [], maps := [], fuel := k }
noncomputable def fin_s_l05ReadShort : VV → Ms → Option (ByteArray × TL05Cur × Unit) := finM [.str] [] [.box yL05Cur]
theorem r_s_l05ReadShort (k : Nat) (a0 : TL05Cur) : runX (c_s_l05ReadShort k) fin_s_l05ReadShort k 100 (pArgsV 1 [.box yL05Cur] (a0, ())) (ms1 [.box yL05Cur] (a0, ())) = s_l05ReadShort k a0 := by kernel_rfl
noncomputable def sp_s_l05ReadShort (k : Nat) : MSpec := .box yL05Cur fun (a0 : TL05Cur) => .body (s_l05ReadShort k a0) (fun r => outV [.str] [] r.1) (fun r => poV [.box yL05Cur] r.2)
noncomputable def c_s_ReadEvent (k : Nat) : Cfg := { eqs := [], tab := [(3, (.int .i64)), (4, .bool), (9, .str), (22, (.slice 3 (.int .i64))), (24, yEvent), (132, yL05Cur)], spec := [(132, sp_s_EventText k)], mspec := [(97, sp_s_l09One k), (98, sp_s_l05Var k), (100, sp_s_l05ReadShort k)], inl := [(33, Try.f33), (99, Try.f99)], keep := [(3300001006, [0, 2, 4, 5, 6, 7]), (9900002006, [0, 1, 4, 5])], join := [], hold := [(3300001006, [(5, [0, 7], 3, (.int .i64), false, false)]), (9900002006, [(1, [0, 5], 3, (.int .i64), false, false)])], ptrs := [], maps := [], fuel := k }
noncomputable def fin_s_ReadEvent : VV → Ms → Option (TEvent × Bool) := finV [yEvent, .bool] [true, true]
noncomputable def V1_s_ReadEvent (k n : Nat) (a0 : ByteArray) (v6 : Int) (v7 : Int) (v8 : ByteArray) (v9 : Int) (v10 : Bool) (r1 : Int × TL05Cur × Unit) (r2 : Int × TL05Cur × Unit) (r3 : Int × TL05Cur × Unit) (r4 : Int × TL05Cur × Unit) (r5 : Int × TL05Cur × Unit) (v11 : ByteArray) (xs5 : List Int) (xs12 : List Int) : Option (TEvent × Bool) := lpN (c_s_ReadEvent k) fin_s_ReadEvent n true 3300001006 (cd [1, 1, 1, 1, 1, 0, 1, 0, 0] (bo Try.f33)) [.b 0, .s (cd [1, 1, 1, 1, 1, 1] (bo Try.f33)), .fn Try.f33] ⟨⟨(mkT 66 0 [(0, one (.str a0)), (2, one (.ptr 9000000 0)), (4, one (.ptr 9000001 0)), (5, one (.ptr 9000002 0)), (6, one (.int .i64 v6)), (7, one (.int .i64 v7))]), [(9000000, .box [.int .i64 0, .int .i64 0, .int .i64 0, .int .i64 0, .int .i64 0, .nilS, .str ByteArray.empty, .nilS, .int .i64 0]), (9000001, .box [.str v8, .int .i64 v9, .bool v10]), (9000002, .box [.int .i64 r1.1, .int .i64 r2.1, .int .i64 r3.1, .int .i64 r4.1, .int .i64 r5.1, .row 9000003 none none, .str v11, .row 9000004 none none, .int .i64 0]), (9000003, .row 3 (.int .i64) xs5 true), (9000004, .row 3 (.int .i64) xs12 true)]⟩, 3300001000, 1, [(0, (mkT 0 0 []))]⟩
noncomputable def V0_s_ReadEvent (k n : Nat) (r6 : Int × TL05Cur × Unit) (v1 : Int) (v2 : ByteArray) (v3 : Int) (v4 : Bool) (r1 : Int × TL05Cur × Unit) (r2 : Int × TL05Cur × Unit) (r3 : Int × TL05Cur × Unit) (r4 : Int × TL05Cur × Unit) (r5 : Int × TL05Cur × Unit) (xs5 : List Int) (a0 : ByteArray) : Option (TEvent × Bool) := lpN (c_s_ReadEvent k) fin_s_ReadEvent n true 9900002006 (cd [1, 1, 1, 1, 1, 0, 1, 0, 0] (bo Try.f99)) [.b 0, .s (cd [1, 1, 1, 1, 1, 1] (bo Try.f99)), .fn Try.f99, .op (rg (cd [1, 1, 1, 0] (bo Try.f33))) ((rg (cd [1, 1, 1, 0] (bo Try.f33))).drop 2) 2 (some 17), .s (cd [1, 1, 1, 1] (bo Try.f33)), .fn Try.f33] ⟨⟨(mkT 60 0 [(0, one (.ptr 9000000 0)), (1, one (.ptr 9000001 0)), (4, one (.int .i64 r6.1)), (5, one (.int .i64 v1))]), [(9000000, .box [.str v2, .int .i64 v3, .bool v4]), (9000001, .box [.int .i64 r1.1, .int .i64 r2.1, .int .i64 r3.1, .int .i64 r4.1, .int .i64 r5.1, .row 9000003 none none, .str ByteArray.empty, .nilS, .int .i64 0]), (9000002, .box [.int .i64 0, .int .i64 0, .int .i64 0, .int .i64 0, .int .i64 0, .nilS, .str ByteArray.empty, .nilS, .int .i64 0]), (9000003, .row 3 (.int .i64) xs5 true)]⟩, 9900002000, 2, [(3300001000, (mkT 66 0 [(0, one (.str a0)), (2, one (.ptr 9000002 0)), (3, one (.bool false)), (4, one (.ptr 9000000 0)), (5, one (.ptr 9000001 0)), (10, one (.str a0)), (11, .v ⟨true, [.str a0, .int .i64 0, .bool false]⟩), (12, one (.ptr 9000000 0)), (13, one (.ptr 9000000 0)), (14, one (.int .i64 r1.1)), (15, .v ⟨true, [.int .i64 r1.1, .int .i64 0, .int .i64 0, .int .i64 0, .int .i64 0, .nilS, .str ByteArray.empty, .nilS, .int .i64 0]⟩), (16, one (.ptr 9000000 0))])), (0, (mkT 0 0 []))]⟩
theorem t1_s_ReadEvent (k n : Nat) (a0 : ByteArray) (v6 : Int) (v7 : Int) (v8 : ByteArray) (v9 : Int) (v10 : Bool) (r1 : Int × TL05Cur × Unit) (r2 : Int × TL05Cur × Unit) (r3 : Int × TL05Cur × Unit) (r4 : Int × TL05Cur × Unit) (r5 : Int × TL05Cur × Unit) (v11 : ByteArray) (xs5 : List Int) (xs12 : List Int) : V1_s_ReadEvent k (n + 1) a0 v6 v7 v8 v9 v10 r1 r2 r3 r4 r5 v11 xs5 xs12 = b1_s_ReadEvent k (V1_s_ReadEvent k n) a0 v6 v7 v8 v9 v10 r1 r2 r3 r4 r5 v11 xs5 xs12 := by kernel_rfl
theorem t0_s_ReadEvent (k n : Nat) (r6 : Int × TL05Cur × Unit) (v1 : Int) (v2 : ByteArray) (v3 : Int) (v4 : Bool) (r1 : Int × TL05Cur × Unit) (r2 : Int × TL05Cur × Unit) (r3 : Int × TL05Cur × Unit) (r4 : Int × TL05Cur × Unit) (r5 : Int × TL05Cur × Unit) (xs5 : List Int) (a0 : ByteArray) : V0_s_ReadEvent k (n + 1) r6 v1 v2 v3 v4 r1 r2 r3 r4 r5 xs5 a0 = b0_s_ReadEvent k (V0_s_ReadEvent k n) (V1_s_ReadEvent k n) r6 v1 v2 v3 v4 r1 r2 r3 r4 r5 xs5 a0 := by kernel_rfl
theorem e_s_ReadEvent (k : Nat) : ∀ n : Nat, V1_s_ReadEvent k n = l1_s_ReadEvent k n ∧ V0_s_ReadEvent k n = l0_s_ReadEvent k n
  | 0 => ⟨(by funext a0 v6 v7 v8 v9 v10 r1 r2 r3 r4 r5 v11 xs5 xs12; rfl), (by funext r6 v1 v2 v3 v4 r1 r2 r3 r4 r5 xs5 a0; rfl)⟩
  | n + 1 => by
    obtain ⟨h1, h0⟩ := e_s_ReadEvent k n
    exact ⟨(by funext a0 v6 v7 v8 v9 v10 r1 r2 r3 r4 r5 v11 xs5 xs12; rw [t1_s_ReadEvent, h1] <;> rfl), (by funext r6 v1 v2 v3 v4 r1 r2 r3 r4 r5 xs5 a0; rw [t0_s_ReadEvent, h0, h1] <;> rfl)⟩
theorem u_s_ReadEvent (k : Nat) (a0 : ByteArray) : runX (c_s_ReadEvent k) fin_s_ReadEvent k 33 [argV .str a0] ms0 = g_s_ReadEvent k (V0_s_ReadEvent k k) a0 := by kernel_rfl
theorem r_s_ReadEvent (k : Nat) (a0 : ByteArray) : runX (c_s_ReadEvent k) fin_s_ReadEvent k 33 [argV .str a0] ms0 = s_ReadEvent k a0 := by rw [u_s_ReadEvent, show V0_s_ReadEvent k k = l0_s_ReadEvent k k from (e_s_ReadEvent k k).2] <;> rfl
noncomputable def sp_s_ReadEvent (k : Nat) : Spec := .imm .str fun (a0 : ByteArray) => .body (s_ReadEvent k a0) (outV [yEvent, .bool] [true, true])
noncomputable def c_i_KeyOf (k : Nat) : Cfg := { eqs := [], tab := [(3, (.int .i64)), (24, yEvent)], spec := [(129, sp_i_within k)], mspec := [], inl := [(34, Try.f34)], keep := [], join := [], hold := [], ptrs := [], maps := [], fuel := k }
noncomputable def fin_i_KeyOf : VV → Ms → Option Int := finV [(.int .i64)] []
theorem r_i_KeyOf (k : Nat) (a0 : TEvent) : runX (c_i_KeyOf k) fin_i_KeyOf k 34 [argV yEvent a0] ms0 = i_KeyOf k a0 := by kernel_rfl
noncomputable def sp_i_KeyOf (k : Nat) : Spec := .imm yEvent fun (a0 : TEvent) => .body (i_KeyOf k a0) (outV [(.int .i64)] [])
noncomputable def c_l_FnEvents (k : Nat) : Cfg := { eqs := [], tab := [(3, (.int .i64)), (4, .bool), (24, yEvent)], spec := [(25, sp_l_big k), (26, sp_s_DrawEventText k), (27, sp_i_EventText k), (28, sp_i_ReadEvent k), (29, sp_s_EventOk k), (30, sp_i_EventOk k), (31, sp_l_sameEvent k), (32, sp_s_DrawReadEvent k), (33, sp_s_ReadEvent k), (34, sp_i_KeyOf k)], mspec := [], inl := [(5, Try.f5)], keep := [], join := [], hold := [], ptrs := [], maps := [], fuel := k }
noncomputable def fin_l_FnEvents : VV → Ms → Option Bool := finV [.bool] []
theorem r_l_FnEvents (k : Nat) (a0 : List Int) : runX (c_l_FnEvents k) fin_l_FnEvents k 5 [argV (.slice 5 (.int .u8)) a0] ms0 = l_FnEvents k a0 := by kernel_rfl
noncomputable def sp_l_FnEvents (k : Nat) : Spec := .imm (.slice 5 (.int .u8)) fun (a0 : List Int) => .body (l_FnEvents k a0) (outV [.bool] [])
noncomputable def c_s_l05Index (k : Nat) : Cfg := { eqs := [], tab := [(22, (.slice 3 (.int .i64)))], spec := [], mspec := [(172, sp_s_l01Below k), (173, sp_s_l01Once k), (215, sp_s_l01PickInt k)], inl := [(134, Try.f134)], keep := [], join := [], hold := [], ptrs := [], maps := [], fuel := k }
noncomputable def fin_s_l05Index : VV → Ms → Option (Int × TL01Cur × Unit) := finM [(.int .i64)] [] [.box yL01Cur]
theorem r_s_l05Index (k : Nat) (a0 : TL01Cur) : runX (c_s_l05Index k) fin_s_l05Index k 134 (pArgsV 1 [.box yL01Cur] (a0, ())) (ms1 [.box yL01Cur] (a0, ())) = s_l05Index k a0 := by kernel_rfl
noncomputable def sp_s_l05Index (k : Nat) : MSpec := .box yL01Cur fun (a0 : TL01Cur) => .body (s_l05Index k a0) (fun r => outV [(.int .i64)] [] r.1) (fun r => poV [.box yL01Cur] r.2)
noncomputable def c_s_l05SameInts (k : Nat) : Cfg := { eqs := [], tab := [(3, (.int .i64)), (22, (.slice 3 (.int .i64)))], spec := [], mspec := [], inl := [(111, Try.f111)], keep := [(11100001004, [0, 1, 5])], join := [], hold := [], ptrs := [], maps := [], fuel := k }
noncomputable def fin_s_l05SameInts : VV → Ms → Option Bool := finV [.bool] []
noncomputable def V0_s_l05SameInts (k n : Nat) (a0 : List Int) (a1 : List Int) (v1 : Int) : Option Bool := lpN (c_s_l05SameInts k) fin_s_l05SameInts n true 11100001004 (cd [1, 1, 0, 1, 0, 0] (bo Try.f111)) [.b 0, .s (cd [1, 1, 1] (bo Try.f111)), .fn Try.f111] ⟨⟨(mkT 26 0 [(0, one (.slc 3 (.int .i64) a0)), (1, one (.slc 3 (.int .i64) a1)), (5, one (.int .i64 v1))]), []⟩, 11100001000, 1, [(0, (mkT 0 0 []))]⟩
theorem t0_s_l05SameInts (k n : Nat) (a0 : List Int) (a1 : List Int) (v1 : Int) : V0_s_l05SameInts k (n + 1) a0 a1 v1 = b0_s_l05SameInts k (V0_s_l05SameInts k n) a0 a1 v1 := by kernel_rfl
theorem e_s_l05SameInts (k : Nat) : ∀ n : Nat, V0_s_l05SameInts k n = l0_s_l05SameInts k n
  | 0 => (by funext a0 a1 v1; rfl)
  | n + 1 => by
    obtain h0 := e_s_l05SameInts k n
    exact (by funext a0 a1 v1; rw [t0_s_l05SameInts, h0] <;> rfl)
theorem u_s_l05SameInts (k : Nat) (a0 : List Int) (a1 : List Int) : runX (c_s_l05SameInts k) fin_s_l05SameInts k 111 [argV (.slice 3 (.int .i64)) a0, argV (.slice 3 (.int .i64)) a1] ms0 = g_s_l05SameInts k (V0_s_l05SameInts k k) a0 a1 := by kernel_rfl
theorem r_s_l05SameInts (k : Nat) (a0 : List Int) (a1 : List Int) : runX (c_s_l05SameInts k) fin_s_l05SameInts k 111 [argV (.slice 3 (.int .i64)) a0, argV (.slice 3 (.int .i64)) a1] ms0 = s_l05SameInts k a0 a1 := by rw [u_s_l05SameInts, show V0_s_l05SameInts k k = l0_s_l05SameInts k k from (e_s_l05SameInts k k)] <;> rfl
noncomputable def sp_s_l05SameInts (k : Nat) : Spec := .imm (.slice 3 (.int .i64)) fun (a0 : List Int) => .imm (.slice 3 (.int .i64)) fun (a1 : List Int) => .body (s_l05SameInts k a0 a1) (outV [.bool] [])
noncomputable def c_s_l09Same (k : Nat) : Cfg := { eqs := [], tab := [(3, (.int .i64)), (9, .str), (22, (.slice 3 (.int .i64))), (24, yEvent)], spec := [(111, sp_s_l05SameInts k)], mspec := [], inl := [(202, Try.f202)], keep := [], join := [], hold := [], ptrs := [], maps := [], fuel := k }
noncomputable def fin_s_l09Same : VV → Ms → Option Bool := finV [.bool] []
theorem r_s_l09Same (k : Nat) (a0 : TEvent) (a1 : TEvent) : runX (c_s_l09Same k) fin_s_l09Same k 202 [argV yEvent a0, argV yEvent a1] ms0 = s_l09Same k a0 a1 := by kernel_rfl
noncomputable def sp_s_l09Same (k : Nat) : Spec := .imm yEvent fun (a0 : TEvent) => .imm yEvent fun (a1 : TEvent) => .body (s_l09Same k a0 a1) (outV [.bool] [])
noncomputable def c_s_l13Blank (k : Nat) : Cfg := { eqs := [], tab := [(24, yEvent)], spec := [(202, sp_s_l09Same k)], mspec := [], inl := [(237, Try.f237)], keep := [], join := [], hold := [], ptrs := [], maps := [], fuel := k }
noncomputable def fin_s_l13Blank : VV → Ms → Option Bool := finV [.bool] []
theorem r_s_l13Blank (k : Nat) (a0 : TEvent) : runX (c_s_l13Blank k) fin_s_l13Blank k 237 [argV yEvent a0] ms0 = s_l13Blank k a0 := by kernel_rfl
noncomputable def sp_s_l13Blank (k : Nat) : Spec := .imm yEvent fun (a0 : TEvent) => .body (s_l13Blank k a0) (outV [.bool] [])
noncomputable def c_s_CommandOk (k : Nat) : Cfg := { eqs := [], tab := [(3, (.int .i64)), (22, (.slice 3 (.int .i64))), (24, yEvent), (26, yCommand)], spec := [(29, sp_s_EventOk k), (127, sp_s_l09Body k), (128, sp_s_l01In k), (237, sp_s_l13Blank k)], mspec := [], inl := [(191, Try.f191)], keep := [], join := [], hold := [], ptrs := [], maps := [], fuel := k }
noncomputable def fin_s_CommandOk : VV → Ms → Option Bool := finV [.bool] []
theorem r_s_CommandOk (k : Nat) (a0 : TCommand) : runX (c_s_CommandOk k) fin_s_CommandOk k 191 [argV yCommand a0] ms0 = s_CommandOk k a0 := by kernel_rfl
noncomputable def sp_s_CommandOk (k : Nat) : Spec := .imm yCommand fun (a0 : TCommand) => .body (s_CommandOk k a0) (outV [.bool] [])
noncomputable def c_s_CommandText (k : Nat) : Cfg := { eqs := [], tab := [(3, (.int .i64)), (24, yEvent), (26, yCommand)], spec := [(132, sp_s_EventText k), (138, sp_s_l01Var k), (191, sp_s_CommandOk k), (192, sp_s_l09Byte k), (193, sp_s_l09BodyText k), (194, sp_s_l05Short k)], mspec := [], inl := [(101, Try.f101)], keep := [], join := [], hold := [], ptrs := [], maps := [], fuel := k }
noncomputable def fin_s_CommandText : VV → Ms → Option (ByteArray × Bool) := finV [.str, .bool] []
theorem r_s_CommandText (k : Nat) (a0 : TCommand) : runX (c_s_CommandText k) fin_s_CommandText k 101 [argV yCommand a0] ms0 = s_CommandText k a0 := by kernel_rfl
noncomputable def sp_s_CommandText (k : Nat) : Spec := .imm yCommand fun (a0 : TCommand) => .body (s_CommandText k a0) (outV [.str, .bool] [])
noncomputable def c_s_l05Conf (k : Nat) : Cfg := { eqs := [], tab := [(22, (.slice 3 (.int .i64)))], spec := [], mspec := [(173, sp_s_l01Once k)], inl := [(222, Try.f222)], keep := [(22200001003, [0, 3, 4])], join := [], hold := [], ptrs := [], maps := [], fuel := k }
noncomputable def fin_s_l05Conf : VV → Ms → Option (List Int × TL01Cur × Unit) := finM [(.slice 3 (.int .i64))] [true] [.box yL01Cur]
noncomputable def V0_s_l05Conf (k n : Nat) (v1 : Int) (v2 : List Int) (v3 : Int) (v4 : Int) (xs5 : List Int) : Option (List Int × TL01Cur × Unit) := lpN (c_s_l05Conf k) fin_s_l05Conf n true 22200001003 (cd [1, 1, 0, 1, 0, 0] (bo Try.f222)) [.b 0, .s (cd [1, 1, 1] (bo Try.f222)), .fn Try.f222] ⟨⟨(mkT 23 0 [(0, one (.ptr 9000000 0)), (3, one (.row 9000001 none none)), (4, one (.int .i64 v1))]), [(9000000, .box [.slc 5 (.int .u8) v2, .int .i64 v3, .int .i64 v4]), (9000001, .row 3 (.int .i64) xs5 true)]⟩, 22200001000, 1, [(0, (mkT 1 0 [(0, one (.ptr 9000000 0))]))]⟩
theorem t0_s_l05Conf (k n : Nat) (v1 : Int) (v2 : List Int) (v3 : Int) (v4 : Int) (xs5 : List Int) : V0_s_l05Conf k (n + 1) v1 v2 v3 v4 xs5 = b0_s_l05Conf k (V0_s_l05Conf k n) v1 v2 v3 v4 xs5 := by kernel_rfl
theorem e_s_l05Conf (k : Nat) : ∀ n : Nat, V0_s_l05Conf k n = l0_s_l05Conf k n
  | 0 => (by funext v1 v2 v3 v4 xs5; rfl)
  | n + 1 => by
    obtain h0 := e_s_l05Conf k n
    exact (by funext v1 v2 v3 v4 xs5; rw [t0_s_l05Conf, h0] <;> rfl)
theorem u_s_l05Conf (k : Nat) (a0 : TL01Cur) : runX (c_s_l05Conf k) fin_s_l05Conf k 222 (pArgsV 1 [.box yL01Cur] (a0, ())) (ms1 [.box yL01Cur] (a0, ())) = g_s_l05Conf k (V0_s_l05Conf k k) a0 := by kernel_rfl
theorem r_s_l05Conf (k : Nat) (a0 : TL01Cur) : runX (c_s_l05Conf k) fin_s_l05Conf k 222 (pArgsV 1 [.box yL01Cur] (a0, ())) (ms1 [.box yL01Cur] (a0, ())) = s_l05Conf k a0 := by rw [u_s_l05Conf, show V0_s_l05Conf k k = l0_s_l05Conf k k from (e_s_l05Conf k k)] <;> rfl
noncomputable def sp_s_l05Conf (k : Nat) : MSpec := .box yL01Cur fun (a0 : TL01Cur) => .body (s_l05Conf k a0) (fun r => outV [(.slice 3 (.int .i64))] [true] r.1) (fun r => poV [.box yL01Cur] r.2)
noncomputable def c_s_l05Rise (k : Nat) : Cfg := { eqs := [], tab := [(3, (.int .i64)), (22, (.slice 3 (.int .i64)))], spec := [(128, sp_s_l01In k)], mspec := [], inl := [(140, Try.f140)], keep := [(14000001002, [0, 1, 2, 7])], join := [], hold := [], ptrs := [], maps := [], fuel := k }
noncomputable def fin_s_l05Rise : VV → Ms → Option Bool := finV [.bool] []
noncomputable def V0_s_l05Rise (k n : Nat) (a0 : List Int) (a1 : Int) (a2 : Int) (v1 : Int) : Option Bool := lpN (c_s_l05Rise k) fin_s_l05Rise n true 14000001002 (cd [1, 0, 1, 0, 0] (bo Try.f140)) [.b 0, .s (cd [1, 1] (bo Try.f140)), .fn Try.f140] ⟨⟨(mkT 38 0 [(0, one (.slc 3 (.int .i64) a0)), (1, one (.int .i64 a1)), (2, one (.int .i64 a2)), (7, one (.int .i64 v1))]), []⟩, 14000001000, 1, [(0, (mkT 0 0 []))]⟩
theorem t0_s_l05Rise (k n : Nat) (a0 : List Int) (a1 : Int) (a2 : Int) (v1 : Int) : V0_s_l05Rise k (n + 1) a0 a1 a2 v1 = b0_s_l05Rise k (V0_s_l05Rise k n) a0 a1 a2 v1 := by kernel_rfl
theorem e_s_l05Rise (k : Nat) : ∀ n : Nat, V0_s_l05Rise k n = l0_s_l05Rise k n
  | 0 => (by funext a0 a1 a2 v1; rfl)
  | n + 1 => by
    obtain h0 := e_s_l05Rise k n
    exact (by funext a0 a1 a2 v1; rw [t0_s_l05Rise, h0] <;> rfl)
theorem u_s_l05Rise (k : Nat) (a0 : List Int) (a1 : Int) (a2 : Int) : runX (c_s_l05Rise k) fin_s_l05Rise k 140 [argV (.slice 3 (.int .i64)) a0, argV (.int .i64) a1, argV (.int .i64) a2] ms0 = g_s_l05Rise k (V0_s_l05Rise k k) a0 a1 a2 := by kernel_rfl
theorem r_s_l05Rise (k : Nat) (a0 : List Int) (a1 : Int) (a2 : Int) : runX (c_s_l05Rise k) fin_s_l05Rise k 140 [argV (.slice 3 (.int .i64)) a0, argV (.int .i64) a1, argV (.int .i64) a2] ms0 = s_l05Rise k a0 a1 a2 := by rw [u_s_l05Rise, show V0_s_l05Rise k k = l0_s_l05Rise k k from (e_s_l05Rise k k)] <;> rfl
noncomputable def sp_s_l05Rise (k : Nat) : Spec := .imm (.slice 3 (.int .i64)) fun (a0 : List Int) => .imm (.int .i64) fun (a1 : Int) => .imm (.int .i64) fun (a2 : Int) => .body (s_l05Rise k a0 a1 a2) (outV [.bool] [])
noncomputable def c_s_ConfOk (k : Nat) : Cfg := { eqs := [], tab := [(22, (.slice 3 (.int .i64)))], spec := [(128, sp_s_l01In k), (140, sp_s_l05Rise k)], mspec := [], inl := [(42, Try.f42)], keep := [], join := [], hold := [], ptrs := [], maps := [], fuel := k }
noncomputable def fin_s_ConfOk : VV → Ms → Option Bool := finV [.bool] []
theorem r_s_ConfOk (k : Nat) (a0 : List Int) : runX (c_s_ConfOk k) fin_s_ConfOk k 42 [argV (.slice 3 (.int .i64)) a0] ms0 = s_ConfOk k a0 := by kernel_rfl
noncomputable def sp_s_ConfOk (k : Nat) : Spec := .imm (.slice 3 (.int .i64)) fun (a0 : List Int) => .body (s_ConfOk k a0) (outV [.bool] [])
noncomputable def c_s_ConfText (k : Nat) : Cfg := { eqs := [], tab := [(3, (.int .i64)), (5, (.int .u8)), (9, .str), (22, (.slice 3 (.int .i64))), (53, (.slice 5 (.int .u8)))], spec := [(42, sp_s_ConfOk k)], mspec := [], inl := [(231, Try.f231)], keep := [(23100001005, [0, 4, 5])], join := [], hold := [], ptrs := [], maps := [], fuel := k }
noncomputable def fin_s_ConfText : VV → Ms → Option (ByteArray × Bool) := finV [.str, .bool] []
noncomputable def V0_s_ConfText (k n : Nat) (a0 : List Int) (v1 : Int) (xs2 : List Int) : Option (ByteArray × Bool) := lpN (c_s_ConfText k) fin_s_ConfText n true 23100001005 (cd [1, 1, 1, 0, 1, 0, 0] (bo Try.f231)) [.b 0, .s (cd [1, 1, 1, 1] (bo Try.f231)), .fn Try.f231] ⟨⟨(mkT 26 0 [(0, one (.slc 3 (.int .i64) a0)), (4, one (.row 9000000 none none)), (5, one (.int .i64 v1))]), [(9000000, .row 5 (.int .u8) xs2 true)]⟩, 23100001000, 1, [(0, (mkT 0 0 []))]⟩
theorem t0_s_ConfText (k n : Nat) (a0 : List Int) (v1 : Int) (xs2 : List Int) : V0_s_ConfText k (n + 1) a0 v1 xs2 = b0_s_ConfText k (V0_s_ConfText k n) a0 v1 xs2 := by kernel_rfl
theorem e_s_ConfText (k : Nat) : ∀ n : Nat, V0_s_ConfText k n = l0_s_ConfText k n
  | 0 => (by funext a0 v1 xs2; rfl)
  | n + 1 => by
    obtain h0 := e_s_ConfText k n
    exact (by funext a0 v1 xs2; rw [t0_s_ConfText, h0] <;> rfl)
theorem u_s_ConfText (k : Nat) (a0 : List Int) : runX (c_s_ConfText k) fin_s_ConfText k 231 [argV (.slice 3 (.int .i64)) a0] ms0 = g_s_ConfText k (V0_s_ConfText k k) a0 := by kernel_rfl
theorem r_s_ConfText (k : Nat) (a0 : List Int) : runX (c_s_ConfText k) fin_s_ConfText k 231 [argV (.slice 3 (.int .i64)) a0] ms0 = s_ConfText k a0 := by rw [u_s_ConfText, show V0_s_ConfText k k = l0_s_ConfText k k from (e_s_ConfText k k)] <;> rfl
noncomputable def sp_s_ConfText (k : Nat) : Spec := .imm (.slice 3 (.int .i64)) fun (a0 : List Int) => .body (s_ConfText k a0) (outV [.str, .bool] [])
noncomputable def c_s_HallNew (k : Nat) : Cfg := { eqs := [], tab := [(48, (.slice 151 yOut)), (50, yHall1), (151, yOut)], spec := [], mspec := [], inl := [(251, Try.f251)], keep := [(25100001003, [0, 1, 2])], join := [], hold := [(25100001003, [(1, [0, 4], 151, yOut, false, false)])], ptrs := [], maps := [], fuel := k }
noncomputable def fin_s_HallNew : VV → Ms → Option THall := finV [yHall1] [true, true, true, true, true]
noncomputable def V0_s_HallNew (k n : Nat) (v1 : Int) (xs2 : List TOut) : Option THall := lpN (c_s_HallNew k) fin_s_HallNew n true 25100001003 (cd [1, 1, 0, 1, 0, 0] (bo Try.f251)) [.b 0, .s (cd [1, 1, 1] (bo Try.f251)), .fn Try.f251] ⟨⟨(mkT 16 0 [(0, one (.ptr 9000000 0)), (1, one (.ptr 9000001 0)), (2, one (.int .i64 v1))]), [(9000000, .box [.nilS, .nilS, .nilS, .nilS, .nilS]), (9000001, .box [.nilS, .nilS, .nilS, .nilS, .row 9000002 none none]), (9000002, .row 151 yOut xs2 true)]⟩, 25100001000, 1, [(0, (mkT 0 0 []))]⟩
theorem t0_s_HallNew (k n : Nat) (v1 : Int) (xs2 : List TOut) : V0_s_HallNew k (n + 1) v1 xs2 = b0_s_HallNew k (V0_s_HallNew k n) v1 xs2 := by kernel_rfl
theorem e_s_HallNew (k : Nat) : ∀ n : Nat, V0_s_HallNew k n = l0_s_HallNew k n
  | 0 => (by funext v1 xs2; rfl)
  | n + 1 => by
    obtain h0 := e_s_HallNew k n
    exact (by funext v1 xs2; rw [t0_s_HallNew, h0] <;> rfl)
theorem u_s_HallNew (k : Nat) : runX (c_s_HallNew k) fin_s_HallNew k 251 [] ms0 = g_s_HallNew k (V0_s_HallNew k k) := by kernel_rfl
theorem r_s_HallNew (k : Nat) : runX (c_s_HallNew k) fin_s_HallNew k 251 [] ms0 = s_HallNew k := by rw [u_s_HallNew, show V0_s_HallNew k k = l0_s_HallNew k k from (e_s_HallNew k k)] <;> rfl
noncomputable def sp_s_HallNew (k : Nat) : Spec := .body (s_HallNew k) (outV [yHall1] [true, true, true, true, true])
noncomputable def c_s_l11Add (k : Nat) : Cfg := { eqs := [], tab := [(3, (.int .i64)), (22, (.slice 3 (.int .i64)))], spec := [], mspec := [], inl := [(151, Try.f151)], keep := [(15100001004, [0, 1, 5, 6, 7])], join := [], hold := [], ptrs := [], maps := [], fuel := k }
noncomputable def fin_s_l11Add : VV → Ms → Option (List Int) := finV [(.slice 3 (.int .i64))] [true]
noncomputable def V0_s_l11Add (k n : Nat) (a0 : List Int) (a1 : Int) (v1 : Bool) (v2 : Int) (xs3 : List Int) : Option (List Int) := lpN (c_s_l11Add k) fin_s_l11Add n true 15100001004 (cd [1, 1, 1, 0, 1, 0, 0] (bo Try.f151)) [.b 0, .s (cd [1, 1, 1, 1] (bo Try.f151)), .fn Try.f151] ⟨⟨(mkT 49 0 [(0, one (.slc 3 (.int .i64) a0)), (1, one (.int .i64 a1)), (5, one (.row 9000000 none none)), (6, one (.bool v1)), (7, one (.int .i64 v2))]), [(9000000, .row 3 (.int .i64) xs3 true)]⟩, 15100001000, 1, [(0, (mkT 0 0 []))]⟩
theorem t0_s_l11Add (k n : Nat) (a0 : List Int) (a1 : Int) (v1 : Bool) (v2 : Int) (xs3 : List Int) : V0_s_l11Add k (n + 1) a0 a1 v1 v2 xs3 = b0_s_l11Add k (V0_s_l11Add k n) a0 a1 v1 v2 xs3 := by kernel_rfl
theorem e_s_l11Add (k : Nat) : ∀ n : Nat, V0_s_l11Add k n = l0_s_l11Add k n
  | 0 => (by funext a0 a1 v1 v2 xs3; rfl)
  | n + 1 => by
    obtain h0 := e_s_l11Add k n
    exact (by funext a0 a1 v1 v2 xs3; rw [t0_s_l11Add, h0] <;> rfl)
theorem u_s_l11Add (k : Nat) (a0 : List Int) (a1 : Int) : runX (c_s_l11Add k) fin_s_l11Add k 151 [argV (.slice 3 (.int .i64)) a0, argV (.int .i64) a1] ms0 = g_s_l11Add k (V0_s_l11Add k k) a0 a1 := by kernel_rfl
theorem r_s_l11Add (k : Nat) (a0 : List Int) (a1 : Int) : runX (c_s_l11Add k) fin_s_l11Add k 151 [argV (.slice 3 (.int .i64)) a0, argV (.int .i64) a1] ms0 = s_l11Add k a0 a1 := by rw [u_s_l11Add, show V0_s_l11Add k k = l0_s_l11Add k k from (e_s_l11Add k k)] <;> rfl
noncomputable def sp_s_l11Add (k : Nat) : Spec := .imm (.slice 3 (.int .i64)) fun (a0 : List Int) => .imm (.int .i64) fun (a1 : Int) => .body (s_l11Add k a0 a1) (outV [(.slice 3 (.int .i64))] [true])
noncomputable def c_s_l05In (k : Nat) : Cfg := { eqs := [], tab := [(3, (.int .i64)), (22, (.slice 3 (.int .i64)))], spec := [], mspec := [], inl := [(159, Try.f159)], keep := [(15900001002, [0, 1, 5])], join := [], hold := [], ptrs := [], maps := [], fuel := k }
noncomputable def fin_s_l05In : VV → Ms → Option Bool := finV [.bool] []
noncomputable def V0_s_l05In (k n : Nat) (a0 : List Int) (a1 : Int) (v1 : Int) : Option Bool := lpN (c_s_l05In k) fin_s_l05In n true 15900001002 (cd [1, 0, 1, 0, 0] (bo Try.f159)) [.b 0, .s (cd [1, 1] (bo Try.f159)), .fn Try.f159] ⟨⟨(mkT 18 0 [(0, one (.slc 3 (.int .i64) a0)), (1, one (.int .i64 a1)), (5, one (.int .i64 v1))]), []⟩, 15900001000, 1, [(0, (mkT 0 0 []))]⟩
theorem t0_s_l05In (k n : Nat) (a0 : List Int) (a1 : Int) (v1 : Int) : V0_s_l05In k (n + 1) a0 a1 v1 = b0_s_l05In k (V0_s_l05In k n) a0 a1 v1 := by kernel_rfl
theorem e_s_l05In (k : Nat) : ∀ n : Nat, V0_s_l05In k n = l0_s_l05In k n
  | 0 => (by funext a0 a1 v1; rfl)
  | n + 1 => by
    obtain h0 := e_s_l05In k n
    exact (by funext a0 a1 v1; rw [t0_s_l05In, h0] <;> rfl)
theorem u_s_l05In (k : Nat) (a0 : List Int) (a1 : Int) : runX (c_s_l05In k) fin_s_l05In k 159 [argV (.slice 3 (.int .i64)) a0, argV (.int .i64) a1] ms0 = g_s_l05In k (V0_s_l05In k k) a0 a1 := by kernel_rfl
theorem r_s_l05In (k : Nat) (a0 : List Int) (a1 : Int) : runX (c_s_l05In k) fin_s_l05In k 159 [argV (.slice 3 (.int .i64)) a0, argV (.int .i64) a1] ms0 = s_l05In k a0 a1 := by rw [u_s_l05In, show V0_s_l05In k k = l0_s_l05In k k from (e_s_l05In k k)] <;> rfl
noncomputable def sp_s_l05In (k : Nat) : Spec := .imm (.slice 3 (.int .i64)) fun (a0 : List Int) => .imm (.int .i64) fun (a1 : Int) => .body (s_l05In k a0 a1) (outV [.bool] [])
noncomputable def c_s_EndsOf (k : Nat) : Cfg := { eqs := [], tab := [(3, (.int .i64)), (22, (.slice 3 (.int .i64))), (24, yEvent), (44, (.slice 24 yEvent)), (47, yRoom1)], spec := [(151, sp_s_l11Add k), (159, sp_s_l05In k)], mspec := [], inl := [(73, Try.f73)], keep := [(7300001003, [1, 3, 4]), (7300001007, [1, 3, 4, 5, 6])], join := [], hold := [], ptrs := [], maps := [], fuel := k }
noncomputable def fin_s_EndsOf : VV → Ms → Option (List Int) := finV [(.slice 3 (.int .i64))] [true]
noncomputable def V0_s_EndsOf (k n : Nat) (v1 : Int) (a0 : TRoom) (xs2 : List Int) : Option (List Int) := lpN (c_s_EndsOf k) fin_s_EndsOf n true 7300001003 (cd [1, 1, 0, 1, 0, 0] (bo Try.f73)) [.b 0, .s (cd [1, 1, 1] (bo Try.f73)), .fn Try.f73] ⟨⟨(mkT 49 0 [(1, one (.ptr 9000000 0)), (3, one (.row 9000001 none none)), (4, one (.int .i64 v1))]), [(9000000, .box [.slc 24 yEvent a0.1, .slc 78 (.slice 129 yItem) a0.2.1, .slc 4 .bool a0.2.2.1]), (9000001, .row 3 (.int .i64) xs2 true)]⟩, 7300001000, 1, [(0, (mkT 0 0 []))]⟩
noncomputable def V1_s_EndsOf (k n : Nat) (v1 : Int) (v3 : Bool) (v4 : Int) (a0 : TRoom) (xs2 : List Int) : Option (List Int) := lpN (c_s_EndsOf k) fin_s_EndsOf n true 7300001007 (cd [1, 1, 0, 1, 0, 0, 1, 0, 0, 1, 0, 1, 0, 0] (bo Try.f73)) [.b 2, .s (cd [1, 1, 0, 1, 0, 0, 1, 0, 0, 1, 1] (bo Try.f73)), .b 1, .s (cd [1, 1, 0, 1, 0, 0, 1, 1] (bo Try.f73)), .l 7300001003 (cd [1, 1, 0, 1, 0, 0] (bo Try.f73)), .b 0, .s (cd [1, 1, 1] (bo Try.f73)), .fn Try.f73] ⟨⟨(mkT 49 0 [(1, one (.ptr 9000000 0)), (3, one (.row 9000001 none none)), (4, one (.int .i64 v1)), (5, one (.bool v3)), (6, one (.int .i64 v4))]), [(9000000, .box [.slc 24 yEvent a0.1, .slc 78 (.slice 129 yItem) a0.2.1, .slc 4 .bool a0.2.2.1]), (9000001, .row 3 (.int .i64) xs2 true)]⟩, 7300001000, 1, [(0, (mkT 0 0 []))]⟩
theorem t0_s_EndsOf (k n : Nat) (v1 : Int) (a0 : TRoom) (xs2 : List Int) : V0_s_EndsOf k (n + 1) v1 a0 xs2 = b0_s_EndsOf k (V1_s_EndsOf k n) v1 a0 xs2 := by kernel_rfl
theorem t1_s_EndsOf (k n : Nat) (v1 : Int) (v3 : Bool) (v4 : Int) (a0 : TRoom) (xs2 : List Int) : V1_s_EndsOf k (n + 1) v1 v3 v4 a0 xs2 = b1_s_EndsOf k (V1_s_EndsOf k n) (V0_s_EndsOf k n) v1 v3 v4 a0 xs2 := by kernel_rfl
theorem e_s_EndsOf (k : Nat) : ∀ n : Nat, V0_s_EndsOf k n = l0_s_EndsOf k n ∧ V1_s_EndsOf k n = l1_s_EndsOf k n
  | 0 => ⟨(by funext v1 a0 xs2; rfl), (by funext v1 v3 v4 a0 xs2; rfl)⟩
  | n + 1 => by
    obtain ⟨h0, h1⟩ := e_s_EndsOf k n
    exact ⟨(by funext v1 a0 xs2; rw [t0_s_EndsOf, h1] <;> rfl), (by funext v1 v3 v4 a0 xs2; rw [t1_s_EndsOf, h1, h0] <;> rfl)⟩
theorem u_s_EndsOf (k : Nat) (a0 : TRoom) : runX (c_s_EndsOf k) fin_s_EndsOf k 73 [argV yRoom1 a0] ms0 = g_s_EndsOf k (V0_s_EndsOf k k) a0 := by kernel_rfl
theorem r_s_EndsOf (k : Nat) (a0 : TRoom) : runX (c_s_EndsOf k) fin_s_EndsOf k 73 [argV yRoom1 a0] ms0 = s_EndsOf k a0 := by rw [u_s_EndsOf, show V0_s_EndsOf k k = l0_s_EndsOf k k from (e_s_EndsOf k k).1] <;> rfl
noncomputable def sp_s_EndsOf (k : Nat) : Spec := .imm yRoom1 fun (a0 : TRoom) => .body (s_EndsOf k a0) (outV [(.slice 3 (.int .i64))] [true])
noncomputable def c_s_l12Has (k : Nat) : Cfg := { eqs := [], tab := [(3, (.int .i64)), (24, yEvent), (44, (.slice 24 yEvent)), (47, yRoom1)], spec := [], mspec := [], inl := [(230, Try.f230)], keep := [(23000001002, [1, 2, 5])], join := [], hold := [], ptrs := [], maps := [], fuel := k }
noncomputable def fin_s_l12Has : VV → Ms → Option Int := finV [(.int .i64)] []
noncomputable def V0_s_l12Has (k n : Nat) (a1 : Int) (v1 : Int) (a0 : TRoom) : Option Int := lpN (c_s_l12Has k) fin_s_l12Has n true 23000001002 (cd [1, 0, 1, 0, 0] (bo Try.f230)) [.b 0, .s (cd [1, 1] (bo Try.f230)), .fn Try.f230] ⟨⟨(mkT 22 0 [(1, one (.int .i64 a1)), (2, one (.ptr 9000000 0)), (5, one (.int .i64 v1))]), [(9000000, .box [.slc 24 yEvent a0.1, .slc 78 (.slice 129 yItem) a0.2.1, .slc 4 .bool a0.2.2.1])]⟩, 23000001000, 1, [(0, (mkT 0 0 []))]⟩
theorem t0_s_l12Has (k n : Nat) (a1 : Int) (v1 : Int) (a0 : TRoom) : V0_s_l12Has k (n + 1) a1 v1 a0 = b0_s_l12Has k (V0_s_l12Has k n) a1 v1 a0 := by kernel_rfl
theorem e_s_l12Has (k : Nat) : ∀ n : Nat, V0_s_l12Has k n = l0_s_l12Has k n
  | 0 => (by funext a1 v1 a0; rfl)
  | n + 1 => by
    obtain h0 := e_s_l12Has k n
    exact (by funext a1 v1 a0; rw [t0_s_l12Has, h0] <;> rfl)
theorem u_s_l12Has (k : Nat) (a0 : TRoom) (a1 : Int) : runX (c_s_l12Has k) fin_s_l12Has k 230 [argV yRoom1 a0, argV (.int .i64) a1] ms0 = g_s_l12Has k (V0_s_l12Has k k) a0 a1 := by kernel_rfl
theorem r_s_l12Has (k : Nat) (a0 : TRoom) (a1 : Int) : runX (c_s_l12Has k) fin_s_l12Has k 230 [argV yRoom1 a0, argV (.int .i64) a1] ms0 = s_l12Has k a0 a1 := by rw [u_s_l12Has, show V0_s_l12Has k k = l0_s_l12Has k k from (e_s_l12Has k k)] <;> rfl
noncomputable def sp_s_l12Has (k : Nat) : Spec := .imm yRoom1 fun (a0 : TRoom) => .imm (.int .i64) fun (a1 : Int) => .body (s_l12Has k a0 a1) (outV [(.int .i64)] [])
noncomputable def c_s_DepthOf (k : Nat) : Cfg := { eqs := [], tab := [(3, (.int .i64)), (22, (.slice 3 (.int .i64))), (24, yEvent), (44, (.slice 24 yEvent)), (47, yRoom1)], spec := [(230, sp_s_l12Has k)], mspec := [], inl := [(166, Try.f166)], keep := [(16600001003, [1, 2, 5, 6])], join := [], hold := [], ptrs := [], maps := [], fuel := k }
noncomputable def fin_s_DepthOf : VV → Ms → Option Int := finV [(.int .i64)] []
noncomputable def V0_s_DepthOf (k n : Nat) (a1 : List Int) (v1 : Int) (v2 : Int) (a0 : TRoom) : Option Int := lpN (c_s_DepthOf k) fin_s_DepthOf n true 16600001003 (cd [1, 1, 0, 1, 0, 0] (bo Try.f166)) [.b 0, .s (cd [1, 1, 1] (bo Try.f166)), .fn Try.f166] ⟨⟨(mkT 42 0 [(1, one (.slc 3 (.int .i64) a1)), (2, one (.ptr 9000000 0)), (5, one (.int .i64 v1)), (6, one (.int .i64 v2))]), [(9000000, .box [.slc 24 yEvent a0.1, .slc 78 (.slice 129 yItem) a0.2.1, .slc 4 .bool a0.2.2.1])]⟩, 16600001000, 1, [(0, (mkT 0 0 []))]⟩
theorem t0_s_DepthOf (k n : Nat) (a1 : List Int) (v1 : Int) (v2 : Int) (a0 : TRoom) : V0_s_DepthOf k (n + 1) a1 v1 v2 a0 = b0_s_DepthOf k (V0_s_DepthOf k n) a1 v1 v2 a0 := by kernel_rfl
theorem e_s_DepthOf (k : Nat) : ∀ n : Nat, V0_s_DepthOf k n = l0_s_DepthOf k n
  | 0 => (by funext a1 v1 v2 a0; rfl)
  | n + 1 => by
    obtain h0 := e_s_DepthOf k n
    exact (by funext a1 v1 v2 a0; rw [t0_s_DepthOf, h0] <;> rfl)
theorem u_s_DepthOf (k : Nat) (a0 : TRoom) (a1 : List Int) : runX (c_s_DepthOf k) fin_s_DepthOf k 166 [argV yRoom1 a0, argV (.slice 3 (.int .i64)) a1] ms0 = g_s_DepthOf k (V0_s_DepthOf k k) a0 a1 := by kernel_rfl
theorem r_s_DepthOf (k : Nat) (a0 : TRoom) (a1 : List Int) : runX (c_s_DepthOf k) fin_s_DepthOf k 166 [argV yRoom1 a0, argV (.slice 3 (.int .i64)) a1] ms0 = s_DepthOf k a0 a1 := by rw [u_s_DepthOf, show V0_s_DepthOf k k = l0_s_DepthOf k k from (e_s_DepthOf k k)] <;> rfl
noncomputable def sp_s_DepthOf (k : Nat) : Spec := .imm yRoom1 fun (a0 : TRoom) => .imm (.slice 3 (.int .i64)) fun (a1 : List Int) => .body (s_DepthOf k a0 a1) (outV [(.int .i64)] [])
noncomputable def c_s_l11Keys (k : Nat) : Cfg := { eqs := [], tab := [(3, (.int .i64)), (22, (.slice 3 (.int .i64))), (45, (.slice 78 (.slice 129 yItem))), (78, (.slice 129 yItem)), (129, yItem)], spec := [], mspec := [], inl := [(142, Try.f142)], keep := [(14200001003, [0, 3, 4]), (14200001007, [0, 3, 4, 5, 6]), (14200001010, [0, 3, 4, 5, 6, 7])], join := [], hold := [], ptrs := [], maps := [], fuel := k }
noncomputable def fin_s_l11Keys : VV → Ms → Option (List Int) := finV [(.slice 3 (.int .i64))] [true]
noncomputable def V0_s_l11Keys (k n : Nat) (a0 : List (List TItem)) (v1 : Int) (xs2 : List Int) : Option (List Int) := lpN (c_s_l11Keys k) fin_s_l11Keys n true 14200001003 (cd [1, 1, 0, 1, 0, 0] (bo Try.f142)) [.b 0, .s (cd [1, 1, 1] (bo Try.f142)), .fn Try.f142] ⟨⟨(mkT 47 0 [(0, one (.slc 78 (.slice 129 yItem) a0)), (3, one (.row 9000000 none none)), (4, one (.int .i64 v1))]), [(9000000, .row 3 (.int .i64) xs2 true)]⟩, 14200001000, 1, [(0, (mkT 0 0 []))]⟩
noncomputable def V1_s_l11Keys (k n : Nat) (a0 : List (List TItem)) (v1 : Int) (v3 : Bool) (v4 : Int) (xs2 : List Int) : Option (List Int) := lpN (c_s_l11Keys k) fin_s_l11Keys n true 14200001007 (cd [1, 1, 0, 1, 0, 0, 1, 0, 0, 1, 0, 1, 0, 0] (bo Try.f142)) [.b 2, .s (cd [1, 1, 0, 1, 0, 0, 1, 0, 0, 1, 1] (bo Try.f142)), .b 1, .s (cd [1, 1, 0, 1, 0, 0, 1, 1] (bo Try.f142)), .l 14200001003 (cd [1, 1, 0, 1, 0, 0] (bo Try.f142)), .b 0, .s (cd [1, 1, 1] (bo Try.f142)), .fn Try.f142] ⟨⟨(mkT 47 0 [(0, one (.slc 78 (.slice 129 yItem) a0)), (3, one (.row 9000000 none none)), (4, one (.int .i64 v1)), (5, one (.bool v3)), (6, one (.int .i64 v4))]), [(9000000, .row 3 (.int .i64) xs2 true)]⟩, 14200001000, 1, [(0, (mkT 0 0 []))]⟩
noncomputable def V2_s_l11Keys (k n : Nat) (a0 : List (List TItem)) (v1 : Int) (v5 : Bool) (v4 : Int) (v6 : Int) (xs2 : List Int) : Option (List Int) := lpN (c_s_l11Keys k) fin_s_l11Keys n true 14200001010 (cd [1, 1, 0, 1, 0, 0, 1, 0, 0, 1, 0, 1, 0, 0, 1, 0, 0, 1, 0, 0] (bo Try.f142)) [.b 4, .b 3, .s (cd [1, 1, 0, 1, 0, 0, 1, 0, 0, 1, 0, 1, 0, 0, 1, 1] (bo Try.f142)), .l 14200001007 (cd [1, 1, 0, 1, 0, 0, 1, 0, 0, 1, 0, 1, 0, 0] (bo Try.f142)), .b 2, .s (cd [1, 1, 0, 1, 0, 0, 1, 0, 0, 1, 1] (bo Try.f142)), .b 1, .s (cd [1, 1, 0, 1, 0, 0, 1, 1] (bo Try.f142)), .l 14200001003 (cd [1, 1, 0, 1, 0, 0] (bo Try.f142)), .b 0, .s (cd [1, 1, 1] (bo Try.f142)), .fn Try.f142] ⟨⟨(mkT 47 0 [(0, one (.slc 78 (.slice 129 yItem) a0)), (3, one (.row 9000000 none none)), (4, one (.int .i64 v1)), (5, one (.bool v5)), (6, one (.int .i64 v4)), (7, one (.int .i64 v6))]), [(9000000, .row 3 (.int .i64) xs2 true)]⟩, 14200001000, 1, [(0, (mkT 0 0 []))]⟩
theorem t0_s_l11Keys (k n : Nat) (a0 : List (List TItem)) (v1 : Int) (xs2 : List Int) : V0_s_l11Keys k (n + 1) a0 v1 xs2 = b0_s_l11Keys k (V1_s_l11Keys k n) a0 v1 xs2 := by kernel_rfl
theorem t1_s_l11Keys (k n : Nat) (a0 : List (List TItem)) (v1 : Int) (v3 : Bool) (v4 : Int) (xs2 : List Int) : V1_s_l11Keys k (n + 1) a0 v1 v3 v4 xs2 = b1_s_l11Keys k (V2_s_l11Keys k n) (V0_s_l11Keys k n) a0 v1 v3 v4 xs2 := by kernel_rfl
theorem t2_s_l11Keys (k n : Nat) (a0 : List (List TItem)) (v1 : Int) (v5 : Bool) (v4 : Int) (v6 : Int) (xs2 : List Int) : V2_s_l11Keys k (n + 1) a0 v1 v5 v4 v6 xs2 = b2_s_l11Keys k (V2_s_l11Keys k n) (V1_s_l11Keys k n) a0 v1 v5 v4 v6 xs2 := by kernel_rfl
theorem e_s_l11Keys (k : Nat) : ∀ n : Nat, V0_s_l11Keys k n = l0_s_l11Keys k n ∧ V1_s_l11Keys k n = l1_s_l11Keys k n ∧ V2_s_l11Keys k n = l2_s_l11Keys k n
  | 0 => ⟨(by funext a0 v1 xs2; rfl), (by funext a0 v1 v3 v4 xs2; rfl), (by funext a0 v1 v5 v4 v6 xs2; rfl)⟩
  | n + 1 => by
    obtain ⟨h0, h1, h2⟩ := e_s_l11Keys k n
    exact ⟨(by funext a0 v1 xs2; rw [t0_s_l11Keys, h1] <;> rfl), (by funext a0 v1 v3 v4 xs2; rw [t1_s_l11Keys, h2, h0] <;> rfl), (by funext a0 v1 v5 v4 v6 xs2; rw [t2_s_l11Keys, h2, h1] <;> rfl)⟩
theorem u_s_l11Keys (k : Nat) (a0 : List (List TItem)) : runX (c_s_l11Keys k) fin_s_l11Keys k 142 [argV (.slice 78 (.slice 129 yItem)) a0] ms0 = g_s_l11Keys k (V0_s_l11Keys k k) a0 := by kernel_rfl
theorem r_s_l11Keys (k : Nat) (a0 : List (List TItem)) : runX (c_s_l11Keys k) fin_s_l11Keys k 142 [argV (.slice 78 (.slice 129 yItem)) a0] ms0 = s_l11Keys k a0 := by rw [u_s_l11Keys, show V0_s_l11Keys k k = l0_s_l11Keys k k from (e_s_l11Keys k k).1] <;> rfl
noncomputable def sp_s_l11Keys (k : Nat) : Spec := .imm (.slice 78 (.slice 129 yItem)) fun (a0 : List (List TItem)) => .body (s_l11Keys k a0) (outV [(.slice 3 (.int .i64))] [true])
noncomputable def c_s_At (k : Nat) : Cfg := { eqs := [], tab := [(3, (.int .i64)), (78, (.slice 129 yItem)), (129, yItem)], spec := [], mspec := [], inl := [(144, Try.f144)], keep := [(14400001002, [0, 1, 5])], join := [], hold := [], ptrs := [], maps := [], fuel := k }
noncomputable def fin_s_At : VV → Ms → Option Int := finV [(.int .i64)] []
noncomputable def V0_s_At (k n : Nat) (a0 : List TItem) (a1 : Int) (v1 : Int) : Option Int := lpN (c_s_At k) fin_s_At n true 14400001002 (cd [1, 0, 1, 0, 0] (bo Try.f144)) [.b 0, .s (cd [1, 1] (bo Try.f144)), .fn Try.f144] ⟨⟨(mkT 24 0 [(0, one (.slc 129 yItem a0)), (1, one (.int .i64 a1)), (5, one (.int .i64 v1))]), []⟩, 14400001000, 1, [(0, (mkT 0 0 []))]⟩
theorem t0_s_At (k n : Nat) (a0 : List TItem) (a1 : Int) (v1 : Int) : V0_s_At k (n + 1) a0 a1 v1 = b0_s_At k (V0_s_At k n) a0 a1 v1 := by kernel_rfl
theorem e_s_At (k : Nat) : ∀ n : Nat, V0_s_At k n = l0_s_At k n
  | 0 => (by funext a0 a1 v1; rfl)
  | n + 1 => by
    obtain h0 := e_s_At k n
    exact (by funext a0 a1 v1; rw [t0_s_At, h0] <;> rfl)
theorem u_s_At (k : Nat) (a0 : List TItem) (a1 : Int) : runX (c_s_At k) fin_s_At k 144 [argV (.slice 129 yItem) a0, argV (.int .i64) a1] ms0 = g_s_At k (V0_s_At k k) a0 a1 := by kernel_rfl
theorem r_s_At (k : Nat) (a0 : List TItem) (a1 : Int) : runX (c_s_At k) fin_s_At k 144 [argV (.slice 129 yItem) a0, argV (.int .i64) a1] ms0 = s_At k a0 a1 := by rw [u_s_At, show V0_s_At k k = l0_s_At k k from (e_s_At k k)] <;> rfl
noncomputable def sp_s_At (k : Nat) : Spec := .imm (.slice 129 yItem) fun (a0 : List TItem) => .imm (.int .i64) fun (a1 : Int) => .body (s_At k a0 a1) (outV [(.int .i64)] [])
noncomputable def c_s_l11Alike (k : Nat) : Cfg := { eqs := [], tab := [(45, (.slice 78 (.slice 129 yItem))), (78, (.slice 129 yItem))], spec := [(144, sp_s_At k)], mspec := [], inl := [(143, Try.f143)], keep := [(14300001002, [0, 1, 5])], join := [], hold := [], ptrs := [], maps := [], fuel := k }
noncomputable def fin_s_l11Alike : VV → Ms → Option Bool := finV [.bool] []
noncomputable def V0_s_l11Alike (k n : Nat) (a0 : List (List TItem)) (a1 : Int) (v1 : Int) : Option Bool := lpN (c_s_l11Alike k) fin_s_l11Alike n true 14300001002 (cd [1, 0, 1, 0, 0] (bo Try.f143)) [.b 0, .s (cd [1, 1] (bo Try.f143)), .fn Try.f143] ⟨⟨(mkT 24 0 [(0, one (.slc 78 (.slice 129 yItem) a0)), (1, one (.int .i64 a1)), (5, one (.int .i64 v1))]), []⟩, 14300001000, 1, [(0, (mkT 0 0 []))]⟩
theorem t0_s_l11Alike (k n : Nat) (a0 : List (List TItem)) (a1 : Int) (v1 : Int) : V0_s_l11Alike k (n + 1) a0 a1 v1 = b0_s_l11Alike k (V0_s_l11Alike k n) a0 a1 v1 := by kernel_rfl
theorem e_s_l11Alike (k : Nat) : ∀ n : Nat, V0_s_l11Alike k n = l0_s_l11Alike k n
  | 0 => (by funext a0 a1 v1; rfl)
  | n + 1 => by
    obtain h0 := e_s_l11Alike k n
    exact (by funext a0 a1 v1; rw [t0_s_l11Alike, h0] <;> rfl)
theorem u_s_l11Alike (k : Nat) (a0 : List (List TItem)) (a1 : Int) : runX (c_s_l11Alike k) fin_s_l11Alike k 143 [argV (.slice 78 (.slice 129 yItem)) a0, argV (.int .i64) a1] ms0 = g_s_l11Alike k (V0_s_l11Alike k k) a0 a1 := by kernel_rfl
theorem r_s_l11Alike (k : Nat) (a0 : List (List TItem)) (a1 : Int) : runX (c_s_l11Alike k) fin_s_l11Alike k 143 [argV (.slice 78 (.slice 129 yItem)) a0, argV (.int .i64) a1] ms0 = s_l11Alike k a0 a1 := by rw [u_s_l11Alike, show V0_s_l11Alike k k = l0_s_l11Alike k k from (e_s_l11Alike k k)] <;> rfl
noncomputable def sp_s_l11Alike (k : Nat) : Spec := .imm (.slice 78 (.slice 129 yItem)) fun (a0 : List (List TItem)) => .imm (.int .i64) fun (a1 : Int) => .body (s_l11Alike k a0 a1) (outV [.bool] [])
noncomputable def c_s_Agreed (k : Nat) : Cfg := { eqs := [], tab := [(3, (.int .i64)), (22, (.slice 3 (.int .i64))), (45, (.slice 78 (.slice 129 yItem))), (78, (.slice 129 yItem)), (129, yItem)], spec := [(142, sp_s_l11Keys k), (143, sp_s_l11Alike k), (144, sp_s_At k)], mspec := [], inl := [(47, Try.f47)], keep := [(4700001004, [0, 3, 4, 5])], join := [], hold := [], ptrs := [], maps := [], fuel := k }
noncomputable def fin_s_Agreed : VV → Ms → Option (List TItem) := finV [(.slice 129 yItem)] [true]
noncomputable def V0_s_Agreed (k n : Nat) (a0 : List (List TItem)) (v1 : Int) (xs2 : List TItem) (r1 : List Int) : Option (List TItem) := lpN (c_s_Agreed k) fin_s_Agreed n true 4700001004 (cd [1, 1, 1, 0, 1, 0, 0] (bo Try.f47)) [.b 0, .s (cd [1, 1, 1, 1] (bo Try.f47)), .fn Try.f47] ⟨⟨(mkT 38 0 [(0, one (.slc 78 (.slice 129 yItem) a0)), (3, one (.row 9000000 none none)), (4, one (.row 9000001 none none)), (5, one (.int .i64 v1))]), [(9000000, .row 129 yItem xs2 true), (9000001, .row 3 (.int .i64) r1 true)]⟩, 4700001000, 1, [(0, (mkT 0 0 []))]⟩
theorem t0_s_Agreed (k n : Nat) (a0 : List (List TItem)) (v1 : Int) (xs2 : List TItem) (r1 : List Int) : V0_s_Agreed k (n + 1) a0 v1 xs2 r1 = b0_s_Agreed k (V0_s_Agreed k n) a0 v1 xs2 r1 := by kernel_rfl
theorem e_s_Agreed (k : Nat) : ∀ n : Nat, V0_s_Agreed k n = l0_s_Agreed k n
  | 0 => (by funext a0 v1 xs2 r1; rfl)
  | n + 1 => by
    obtain h0 := e_s_Agreed k n
    exact (by funext a0 v1 xs2 r1; rw [t0_s_Agreed, h0] <;> rfl)
theorem u_s_Agreed (k : Nat) (a0 : List (List TItem)) : runX (c_s_Agreed k) fin_s_Agreed k 47 [argV (.slice 78 (.slice 129 yItem)) a0] ms0 = g_s_Agreed k (V0_s_Agreed k k) a0 := by kernel_rfl
theorem r_s_Agreed (k : Nat) (a0 : List (List TItem)) : runX (c_s_Agreed k) fin_s_Agreed k 47 [argV (.slice 78 (.slice 129 yItem)) a0] ms0 = s_Agreed k a0 := by rw [u_s_Agreed, show V0_s_Agreed k k = l0_s_Agreed k k from (e_s_Agreed k k)] <;> rfl
noncomputable def sp_s_Agreed (k : Nat) : Spec := .imm (.slice 78 (.slice 129 yItem)) fun (a0 : List (List TItem)) => .body (s_Agreed k a0) (outV [(.slice 129 yItem)] [true])
noncomputable def c_s_Clash (k : Nat) : Cfg := { eqs := [], tab := [(3, (.int .i64)), (22, (.slice 3 (.int .i64)))], spec := [(142, sp_s_l11Keys k), (143, sp_s_l11Alike k)], mspec := [], inl := [(55, Try.f55)], keep := [(5500001004, [0, 3, 4, 5])], join := [], hold := [], ptrs := [], maps := [], fuel := k }
noncomputable def fin_s_Clash : VV → Ms → Option (List Int) := finV [(.slice 3 (.int .i64))] [true]
noncomputable def V0_s_Clash (k n : Nat) (a0 : List (List TItem)) (v1 : Int) (xs2 : List Int) (r1 : List Int) : Option (List Int) := lpN (c_s_Clash k) fin_s_Clash n true 5500001004 (cd [1, 1, 1, 0, 1, 0, 0] (bo Try.f55)) [.b 0, .s (cd [1, 1, 1, 1] (bo Try.f55)), .fn Try.f55] ⟨⟨(mkT 30 0 [(0, one (.slc 78 (.slice 129 yItem) a0)), (3, one (.row 9000000 none none)), (4, one (.row 9000001 none none)), (5, one (.int .i64 v1))]), [(9000000, .row 3 (.int .i64) xs2 true), (9000001, .row 3 (.int .i64) r1 true)]⟩, 5500001000, 1, [(0, (mkT 0 0 []))]⟩
theorem t0_s_Clash (k n : Nat) (a0 : List (List TItem)) (v1 : Int) (xs2 : List Int) (r1 : List Int) : V0_s_Clash k (n + 1) a0 v1 xs2 r1 = b0_s_Clash k (V0_s_Clash k n) a0 v1 xs2 r1 := by kernel_rfl
theorem e_s_Clash (k : Nat) : ∀ n : Nat, V0_s_Clash k n = l0_s_Clash k n
  | 0 => (by funext a0 v1 xs2 r1; rfl)
  | n + 1 => by
    obtain h0 := e_s_Clash k n
    exact (by funext a0 v1 xs2 r1; rw [t0_s_Clash, h0] <;> rfl)
theorem u_s_Clash (k : Nat) (a0 : List (List TItem)) : runX (c_s_Clash k) fin_s_Clash k 55 [argV (.slice 78 (.slice 129 yItem)) a0] ms0 = g_s_Clash k (V0_s_Clash k k) a0 := by kernel_rfl
theorem r_s_Clash (k : Nat) (a0 : List (List TItem)) : runX (c_s_Clash k) fin_s_Clash k 55 [argV (.slice 78 (.slice 129 yItem)) a0] ms0 = s_Clash k a0 := by rw [u_s_Clash, show V0_s_Clash k k = l0_s_Clash k k from (e_s_Clash k k)] <;> rfl
noncomputable def sp_s_Clash (k : Nat) : Spec := .imm (.slice 78 (.slice 129 yItem)) fun (a0 : List (List TItem)) => .body (s_Clash k a0) (outV [(.slice 3 (.int .i64))] [true])
noncomputable def c_s_l10Find (k : Nat) : Cfg := { eqs := [], tab := [(3, (.int .i64)), (24, yEvent), (44, (.slice 24 yEvent))], spec := [], mspec := [], inl := [(150, Try.f150)], keep := [(15000001002, [0, 1, 4, 6])], join := [], hold := [], ptrs := [], maps := [], fuel := k }
noncomputable def fin_s_l10Find : VV → Ms → Option (TEvent × Bool) := finV [yEvent, .bool] [false, false]
noncomputable def V0_s_l10Find (k n : Nat) (a0 : List TEvent) (a1 : Int) (v1 : Int) : Option (TEvent × Bool) := lpN (c_s_l10Find k) fin_s_l10Find n true 15000001002 (cd [1, 0, 1, 0, 0] (bo Try.f150)) [.b 0, .s (cd [1, 1] (bo Try.f150)), .fn Try.f150] ⟨⟨(mkT 25 0 [(0, one (.slc 24 yEvent a0)), (1, one (.int .i64 a1)), (4, one (.ptr 9000000 0)), (6, one (.int .i64 v1))]), [(9000000, .box [.int .i64 0, .int .i64 0, .int .i64 0, .int .i64 0, .int .i64 0, .nilS, .str ByteArray.empty, .nilS, .int .i64 0])]⟩, 15000001000, 1, [(0, (mkT 0 0 []))]⟩
theorem t0_s_l10Find (k n : Nat) (a0 : List TEvent) (a1 : Int) (v1 : Int) : V0_s_l10Find k (n + 1) a0 a1 v1 = b0_s_l10Find k (V0_s_l10Find k n) a0 a1 v1 := by kernel_rfl
theorem e_s_l10Find (k : Nat) : ∀ n : Nat, V0_s_l10Find k n = l0_s_l10Find k n
  | 0 => (by funext a0 a1 v1; rfl)
  | n + 1 => by
    obtain h0 := e_s_l10Find k n
    exact (by funext a0 a1 v1; rw [t0_s_l10Find, h0] <;> rfl)
theorem u_s_l10Find (k : Nat) (a0 : List TEvent) (a1 : Int) : runX (c_s_l10Find k) fin_s_l10Find k 150 [argV (.slice 24 yEvent) a0, argV (.int .i64) a1] ms0 = g_s_l10Find k (V0_s_l10Find k k) a0 a1 := by kernel_rfl
theorem r_s_l10Find (k : Nat) (a0 : List TEvent) (a1 : Int) : runX (c_s_l10Find k) fin_s_l10Find k 150 [argV (.slice 24 yEvent) a0, argV (.int .i64) a1] ms0 = s_l10Find k a0 a1 := by rw [u_s_l10Find, show V0_s_l10Find k k = l0_s_l10Find k k from (e_s_l10Find k k)] <;> rfl
noncomputable def sp_s_l10Find (k : Nat) : Spec := .imm (.slice 24 yEvent) fun (a0 : List TEvent) => .imm (.int .i64) fun (a1 : Int) => .body (s_l10Find k a0 a1) (outV [yEvent, .bool] [false, false])
noncomputable def c_s_LevelOf (k : Nat) : Cfg := { eqs := [], tab := [(3, (.int .i64)), (22, (.slice 3 (.int .i64))), (24, yEvent)], spec := [(128, sp_s_l01In k), (144, sp_s_At k), (150, sp_s_l10Find k)], mspec := [], inl := [(188, Try.f188)], keep := [], join := [], hold := [], ptrs := [], maps := [], fuel := k }
noncomputable def fin_s_LevelOf : VV → Ms → Option Int := finV [(.int .i64)] []
theorem r_s_LevelOf (k : Nat) (a0 : List TEvent) (a1 : List TItem) (a2 : Int) : runX (c_s_LevelOf k) fin_s_LevelOf k 188 [argV (.slice 24 yEvent) a0, argV (.slice 129 yItem) a1, argV (.int .i64) a2] ms0 = s_LevelOf k a0 a1 a2 := by kernel_rfl
noncomputable def sp_s_LevelOf (k : Nat) : Spec := .imm (.slice 24 yEvent) fun (a0 : List TEvent) => .imm (.slice 129 yItem) fun (a1 : List TItem) => .imm (.int .i64) fun (a2 : Int) => .body (s_LevelOf k a0 a1 a2) (outV [(.int .i64)] [])
noncomputable def c_s_MemberOf (k : Nat) : Cfg := { eqs := [], tab := [(3, (.int .i64)), (24, yEvent)], spec := [(128, sp_s_l01In k), (144, sp_s_At k), (150, sp_s_l10Find k)], mspec := [], inl := [(271, Try.f271)], keep := [], join := [], hold := [], ptrs := [], maps := [], fuel := k }
noncomputable def fin_s_MemberOf : VV → Ms → Option Int := finV [(.int .i64)] []
theorem r_s_MemberOf (k : Nat) (a0 : List TEvent) (a1 : List TItem) (a2 : Int) : runX (c_s_MemberOf k) fin_s_MemberOf k 271 [argV (.slice 24 yEvent) a0, argV (.slice 129 yItem) a1, argV (.int .i64) a2] ms0 = s_MemberOf k a0 a1 a2 := by kernel_rfl
noncomputable def sp_s_MemberOf (k : Nat) : Spec := .imm (.slice 24 yEvent) fun (a0 : List TEvent) => .imm (.slice 129 yItem) fun (a1 : List TItem) => .imm (.int .i64) fun (a2 : Int) => .body (s_MemberOf k a0 a1 a2) (outV [(.int .i64)] [])
noncomputable def c_s_l10Empty (k : Nat) : Cfg := { eqs := [], tab := [(3, (.int .i64)), (78, (.slice 129 yItem)), (129, yItem)], spec := [], mspec := [], inl := [(278, Try.f278)], keep := [(27800001002, [0, 3])], join := [], hold := [], ptrs := [], maps := [], fuel := k }
noncomputable def fin_s_l10Empty : VV → Ms → Option Bool := finV [.bool] []
noncomputable def V0_s_l10Empty (k n : Nat) (a0 : List TItem) (v1 : Int) : Option Bool := lpN (c_s_l10Empty k) fin_s_l10Empty n true 27800001002 (cd [1, 0, 1, 0, 0] (bo Try.f278)) [.b 0, .s (cd [1, 1] (bo Try.f278)), .fn Try.f278] ⟨⟨(mkT 16 0 [(0, one (.slc 129 yItem a0)), (3, one (.int .i64 v1))]), []⟩, 27800001000, 1, [(0, (mkT 0 0 []))]⟩
theorem t0_s_l10Empty (k n : Nat) (a0 : List TItem) (v1 : Int) : V0_s_l10Empty k (n + 1) a0 v1 = b0_s_l10Empty k (V0_s_l10Empty k n) a0 v1 := by kernel_rfl
theorem e_s_l10Empty (k : Nat) : ∀ n : Nat, V0_s_l10Empty k n = l0_s_l10Empty k n
  | 0 => (by funext a0 v1; rfl)
  | n + 1 => by
    obtain h0 := e_s_l10Empty k n
    exact (by funext a0 v1; rw [t0_s_l10Empty, h0] <;> rfl)
theorem u_s_l10Empty (k : Nat) (a0 : List TItem) : runX (c_s_l10Empty k) fin_s_l10Empty k 278 [argV (.slice 129 yItem) a0] ms0 = g_s_l10Empty k (V0_s_l10Empty k k) a0 := by kernel_rfl
theorem r_s_l10Empty (k : Nat) (a0 : List TItem) : runX (c_s_l10Empty k) fin_s_l10Empty k 278 [argV (.slice 129 yItem) a0] ms0 = s_l10Empty k a0 := by rw [u_s_l10Empty, show V0_s_l10Empty k k = l0_s_l10Empty k k from (e_s_l10Empty k k)] <;> rfl
noncomputable def sp_s_l10Empty (k : Nat) : Spec := .imm (.slice 129 yItem) fun (a0 : List TItem) => .body (s_l10Empty k a0) (outV [.bool] [])
noncomputable def c_s_l10Self (k : Nat) : Cfg := { eqs := [], tab := [(3, (.int .i64)), (24, yEvent)], spec := [(144, sp_s_At k), (150, sp_s_l10Find k), (271, sp_s_MemberOf k), (278, sp_s_l10Empty k)], mspec := [], inl := [(274, Try.f274)], keep := [], join := [], hold := [], ptrs := [], maps := [], fuel := k }
noncomputable def fin_s_l10Self : VV → Ms → Option Bool := finV [.bool] []
theorem r_s_l10Self (k : Nat) (a0 : List TEvent) (a1 : List TItem) (a2 : TEvent) : runX (c_s_l10Self k) fin_s_l10Self k 274 [argV (.slice 24 yEvent) a0, argV (.slice 129 yItem) a1, argV yEvent a2] ms0 = s_l10Self k a0 a1 a2 := by kernel_rfl
noncomputable def sp_s_l10Self (k : Nat) : Spec := .imm (.slice 24 yEvent) fun (a0 : List TEvent) => .imm (.slice 129 yItem) fun (a1 : List TItem) => .imm yEvent fun (a2 : TEvent) => .body (s_l10Self k a0 a1 a2) (outV [.bool] [])
noncomputable def c_s_l10Member (k : Nat) : Cfg := { eqs := [], tab := [(3, (.int .i64)), (24, yEvent)], spec := [(188, sp_s_LevelOf k), (271, sp_s_MemberOf k), (274, sp_s_l10Self k)], mspec := [], inl := [(269, Try.f269)], keep := [], join := [], hold := [], ptrs := [], maps := [], fuel := k }
noncomputable def fin_s_l10Member : VV → Ms → Option Bool := finV [.bool] []
theorem r_s_l10Member (k : Nat) (a0 : List TEvent) (a1 : List TItem) (a2 : TEvent) : runX (c_s_l10Member k) fin_s_l10Member k 269 [argV (.slice 24 yEvent) a0, argV (.slice 129 yItem) a1, argV yEvent a2] ms0 = s_l10Member k a0 a1 a2 := by kernel_rfl
noncomputable def sp_s_l10Member (k : Nat) : Spec := .imm (.slice 24 yEvent) fun (a0 : List TEvent) => .imm (.slice 129 yItem) fun (a1 : List TItem) => .imm yEvent fun (a2 : TEvent) => .body (s_l10Member k a0 a1 a2) (outV [.bool] [])
noncomputable def c_s_l10Power (k : Nat) : Cfg := { eqs := [], tab := [(3, (.int .i64)), (22, (.slice 3 (.int .i64))), (24, yEvent)], spec := [(188, sp_s_LevelOf k), (271, sp_s_MemberOf k)], mspec := [], inl := [(270, Try.f270)], keep := [(27000001005, [0, 1, 5, 7, 8])], join := [], hold := [], ptrs := [], maps := [], fuel := k }
noncomputable def fin_s_l10Power : VV → Ms → Option Bool := finV [.bool] []
noncomputable def V0_s_l10Power (k n : Nat) (a0 : List TEvent) (a1 : List TItem) (r1 : Int) (v1 : Int) (a2 : TEvent) : Option Bool := lpN (c_s_l10Power k) fin_s_l10Power n true 27000001005 (cd [1, 1, 1, 0, 1, 0, 0] (bo Try.f270)) [.b 0, .s (cd [1, 1, 1, 1] (bo Try.f270)), .fn Try.f270] ⟨⟨(mkT 57 0 [(0, one (.slc 24 yEvent a0)), (1, one (.slc 129 yItem a1)), (5, one (.ptr 9000000 0)), (7, one (.int .i64 r1)), (8, one (.int .i64 v1))]), [(9000000, .box [.int .i64 a2.1, .int .i64 a2.2.1, .int .i64 a2.2.2.1, .int .i64 a2.2.2.2.1, .int .i64 a2.2.2.2.2.1, .slc 3 (.int .i64) a2.2.2.2.2.2.1, .str a2.2.2.2.2.2.2.1, .slc 3 (.int .i64) a2.2.2.2.2.2.2.2.1, .int .i64 a2.2.2.2.2.2.2.2.2.1])]⟩, 27000001000, 1, [(0, (mkT 0 0 []))]⟩
theorem t0_s_l10Power (k n : Nat) (a0 : List TEvent) (a1 : List TItem) (r1 : Int) (v1 : Int) (a2 : TEvent) : V0_s_l10Power k (n + 1) a0 a1 r1 v1 a2 = b0_s_l10Power k (V0_s_l10Power k n) a0 a1 r1 v1 a2 := by kernel_rfl
theorem e_s_l10Power (k : Nat) : ∀ n : Nat, V0_s_l10Power k n = l0_s_l10Power k n
  | 0 => (by funext a0 a1 r1 v1 a2; rfl)
  | n + 1 => by
    obtain h0 := e_s_l10Power k n
    exact (by funext a0 a1 r1 v1 a2; rw [t0_s_l10Power, h0] <;> rfl)
theorem u_s_l10Power (k : Nat) (a0 : List TEvent) (a1 : List TItem) (a2 : TEvent) : runX (c_s_l10Power k) fin_s_l10Power k 270 [argV (.slice 24 yEvent) a0, argV (.slice 129 yItem) a1, argV yEvent a2] ms0 = g_s_l10Power k (V0_s_l10Power k k) a0 a1 a2 := by kernel_rfl
theorem r_s_l10Power (k : Nat) (a0 : List TEvent) (a1 : List TItem) (a2 : TEvent) : runX (c_s_l10Power k) fin_s_l10Power k 270 [argV (.slice 24 yEvent) a0, argV (.slice 129 yItem) a1, argV yEvent a2] ms0 = s_l10Power k a0 a1 a2 := by rw [u_s_l10Power, show V0_s_l10Power k k = l0_s_l10Power k k from (e_s_l10Power k k)] <;> rfl
noncomputable def sp_s_l10Power (k : Nat) : Spec := .imm (.slice 24 yEvent) fun (a0 : List TEvent) => .imm (.slice 129 yItem) fun (a1 : List TItem) => .imm yEvent fun (a2 : TEvent) => .body (s_l10Power k a0 a1 a2) (outV [.bool] [])
noncomputable def c_s_Allowed (k : Nat) : Cfg := { eqs := [], tab := [(3, (.int .i64)), (24, yEvent), (78, (.slice 129 yItem))], spec := [(29, sp_s_EventOk k), (144, sp_s_At k), (150, sp_s_l10Find k), (188, sp_s_LevelOf k), (269, sp_s_l10Member k), (270, sp_s_l10Power k), (271, sp_s_MemberOf k)], mspec := [], inl := [(264, Try.f264)], keep := [], join := [], hold := [], ptrs := [], maps := [], fuel := k }
noncomputable def fin_s_Allowed : VV → Ms → Option Bool := finV [.bool] []
theorem r_s_Allowed (k : Nat) (a0 : List TEvent) (a1 : List TItem) (a2 : TEvent) : runX (c_s_Allowed k) fin_s_Allowed k 264 [argV (.slice 24 yEvent) a0, argV (.slice 129 yItem) a1, argV yEvent a2] ms0 = s_Allowed k a0 a1 a2 := by kernel_rfl
noncomputable def sp_s_Allowed (k : Nat) : Spec := .imm (.slice 24 yEvent) fun (a0 : List TEvent) => .imm (.slice 129 yItem) fun (a1 : List TItem) => .imm yEvent fun (a2 : TEvent) => .body (s_Allowed k a0 a1 a2) (outV [.bool] [])
noncomputable def c_s_KeyOf (k : Nat) : Cfg := { eqs := [], tab := [(3, (.int .i64)), (24, yEvent)], spec := [(128, sp_s_l01In k)], mspec := [], inl := [(265, Try.f265)], keep := [], join := [], hold := [], ptrs := [], maps := [], fuel := k }
noncomputable def fin_s_KeyOf : VV → Ms → Option Int := finV [(.int .i64)] []
theorem r_s_KeyOf (k : Nat) (a0 : TEvent) : runX (c_s_KeyOf k) fin_s_KeyOf k 265 [argV yEvent a0] ms0 = s_KeyOf k a0 := by kernel_rfl
noncomputable def sp_s_KeyOf (k : Nat) : Spec := .imm yEvent fun (a0 : TEvent) => .body (s_KeyOf k a0) (outV [(.int .i64)] [])
noncomputable def c_s_l10Key (k : Nat) : Cfg := { eqs := [], tab := [], spec := [(128, sp_s_l01In k)], mspec := [], inl := [(275, Try.f275)], keep := [], join := [], hold := [], ptrs := [], maps := [], fuel := k }
noncomputable def fin_s_l10Key : VV → Ms → Option Bool := finV [.bool] []
theorem r_s_l10Key (k : Nat) (a0 : Int) : runX (c_s_l10Key k) fin_s_l10Key k 275 [argV (.int .i64) a0] ms0 = s_l10Key k a0 := by kernel_rfl
noncomputable def sp_s_l10Key (k : Nat) : Spec := .imm (.int .i64) fun (a0 : Int) => .body (s_l10Key k a0) (outV [.bool] [])
noncomputable def c_s_StateOk (k : Nat) : Cfg := { eqs := [], tab := [(3, (.int .i64)), (78, (.slice 129 yItem)), (129, yItem)], spec := [(128, sp_s_l01In k), (275, sp_s_l10Key k)], mspec := [], inl := [(272, Try.f272)], keep := [(27200001004, [0, 3])], join := [], hold := [], ptrs := [], maps := [], fuel := k }
noncomputable def fin_s_StateOk : VV → Ms → Option Bool := finV [.bool] []
noncomputable def V0_s_StateOk (k n : Nat) (a0 : List TItem) (v1 : Int) : Option Bool := lpN (c_s_StateOk k) fin_s_StateOk n true 27200001004 (cd [1, 1, 0, 1, 0, 0] (bo Try.f272)) [.b 0, .s (cd [1, 1, 1] (bo Try.f272)), .fn Try.f272] ⟨⟨(mkT 47 0 [(0, one (.slc 129 yItem a0)), (3, one (.int .i64 v1))]), []⟩, 27200001000, 1, [(0, (mkT 0 0 []))]⟩
theorem t0_s_StateOk (k n : Nat) (a0 : List TItem) (v1 : Int) : V0_s_StateOk k (n + 1) a0 v1 = b0_s_StateOk k (V0_s_StateOk k n) a0 v1 := by kernel_rfl
theorem e_s_StateOk (k : Nat) : ∀ n : Nat, V0_s_StateOk k n = l0_s_StateOk k n
  | 0 => (by funext a0 v1; rfl)
  | n + 1 => by
    obtain h0 := e_s_StateOk k n
    exact (by funext a0 v1; rw [t0_s_StateOk, h0] <;> rfl)
theorem u_s_StateOk (k : Nat) (a0 : List TItem) : runX (c_s_StateOk k) fin_s_StateOk k 272 [argV (.slice 129 yItem) a0] ms0 = g_s_StateOk k (V0_s_StateOk k k) a0 := by kernel_rfl
theorem r_s_StateOk (k : Nat) (a0 : List TItem) : runX (c_s_StateOk k) fin_s_StateOk k 272 [argV (.slice 129 yItem) a0] ms0 = s_StateOk k a0 := by rw [u_s_StateOk, show V0_s_StateOk k k = l0_s_StateOk k k from (e_s_StateOk k k)] <;> rfl
noncomputable def sp_s_StateOk (k : Nat) : Spec := .imm (.slice 129 yItem) fun (a0 : List TItem) => .body (s_StateOk k a0) (outV [.bool] [])
noncomputable def c_s_Put (k : Nat) : Cfg := { eqs := [], tab := [(3, (.int .i64)), (78, (.slice 129 yItem)), (129, yItem)], spec := [(272, sp_s_StateOk k)], mspec := [], inl := [(266, Try.f266)], keep := [(26600001003, [0, 1, 2, 7, 8]), (26600001009, [0, 1, 7, 9])], join := [], hold := [], ptrs := [], maps := [], fuel := k }
noncomputable def fin_s_Put : VV → Ms → Option (List TItem) := finV [(.slice 129 yItem)] [true]
noncomputable def V1_s_Put (k n : Nat) (a0 : List TItem) (a1 : Int) (v3 : Int) (xs4 : List TItem) : Option (List TItem) := lpN (c_s_Put k) fin_s_Put n true 26600001009 (cd [1, 1, 1, 1, 0, 1, 0, 0] (bo Try.f266)) [.b 2, .s (cd [1, 1, 1, 1, 1] (bo Try.f266)), .fn Try.f266] ⟨⟨(mkT 69 0 [(0, one (.slc 129 yItem a0)), (1, one (.int .i64 a1)), (7, one (.row 9000000 none none)), (9, one (.int .i64 v3))]), [(9000000, .row 129 yItem xs4 true)]⟩, 26600001000, 1, [(0, (mkT 0 0 []))]⟩
noncomputable def V0_s_Put (k n : Nat) (a0 : List TItem) (a1 : Int) (a2 : Int) (v1 : Int) (xs2 : List TItem) : Option (List TItem) := lpN (c_s_Put k) fin_s_Put n true 26600001003 (cd [1, 1, 0, 1, 0, 0] (bo Try.f266)) [.b 0, .s (cd [1, 1, 1] (bo Try.f266)), .fn Try.f266] ⟨⟨(mkT 69 0 [(0, one (.slc 129 yItem a0)), (1, one (.int .i64 a1)), (2, one (.int .i64 a2)), (7, one (.row 9000000 none none)), (8, one (.int .i64 v1))]), [(9000000, .row 129 yItem xs2 true)]⟩, 26600001000, 1, [(0, (mkT 0 0 []))]⟩
theorem t1_s_Put (k n : Nat) (a0 : List TItem) (a1 : Int) (v3 : Int) (xs4 : List TItem) : V1_s_Put k (n + 1) a0 a1 v3 xs4 = b1_s_Put k (V1_s_Put k n) a0 a1 v3 xs4 := by kernel_rfl
theorem t0_s_Put (k n : Nat) (a0 : List TItem) (a1 : Int) (a2 : Int) (v1 : Int) (xs2 : List TItem) : V0_s_Put k (n + 1) a0 a1 a2 v1 xs2 = b0_s_Put k (V0_s_Put k n) (V1_s_Put k n) a0 a1 a2 v1 xs2 := by kernel_rfl
theorem e_s_Put (k : Nat) : ∀ n : Nat, V1_s_Put k n = l1_s_Put k n ∧ V0_s_Put k n = l0_s_Put k n
  | 0 => ⟨(by funext a0 a1 v3 xs4; rfl), (by funext a0 a1 a2 v1 xs2; rfl)⟩
  | n + 1 => by
    obtain ⟨h1, h0⟩ := e_s_Put k n
    exact ⟨(by funext a0 a1 v3 xs4; rw [t1_s_Put, h1] <;> rfl), (by funext a0 a1 a2 v1 xs2; rw [t0_s_Put, h0, h1] <;> rfl)⟩
theorem u_s_Put (k : Nat) (a0 : List TItem) (a1 : Int) (a2 : Int) : runX (c_s_Put k) fin_s_Put k 266 [argV (.slice 129 yItem) a0, argV (.int .i64) a1, argV (.int .i64) a2] ms0 = g_s_Put k (V0_s_Put k k) a0 a1 a2 := by kernel_rfl
theorem r_s_Put (k : Nat) (a0 : List TItem) (a1 : Int) (a2 : Int) : runX (c_s_Put k) fin_s_Put k 266 [argV (.slice 129 yItem) a0, argV (.int .i64) a1, argV (.int .i64) a2] ms0 = s_Put k a0 a1 a2 := by rw [u_s_Put, show V0_s_Put k k = l0_s_Put k k from (e_s_Put k k).2] <;> rfl
noncomputable def sp_s_Put (k : Nat) : Spec := .imm (.slice 129 yItem) fun (a0 : List TItem) => .imm (.int .i64) fun (a1 : Int) => .imm (.int .i64) fun (a2 : Int) => .body (s_Put k a0 a1 a2) (outV [(.slice 129 yItem)] [true])
noncomputable def c_s_l11Heavy (k : Nat) : Cfg := { eqs := [], tab := [(3, (.int .i64)), (24, yEvent)], spec := [], mspec := [], inl := [(187, Try.f187)], keep := [], join := [], hold := [], ptrs := [], maps := [], fuel := k }
noncomputable def fin_s_l11Heavy : VV → Ms → Option Bool := finV [.bool] []
theorem r_s_l11Heavy (k : Nat) (a0 : TEvent) : runX (c_s_l11Heavy k) fin_s_l11Heavy k 187 [argV yEvent a0] ms0 = s_l11Heavy k a0 := by kernel_rfl
noncomputable def sp_s_l11Heavy (k : Nat) : Spec := .imm yEvent fun (a0 : TEvent) => .body (s_l11Heavy k a0) (outV [.bool] [])
noncomputable def c_s_Heavier (k : Nat) : Cfg := { eqs := [], tab := [(3, (.int .i64)), (4, .bool), (24, yEvent)], spec := [(187, sp_s_l11Heavy k), (188, sp_s_LevelOf k)], mspec := [], inl := [(96, Try.f96)], keep := [], join := [], hold := [], ptrs := [], maps := [], fuel := k }
noncomputable def fin_s_Heavier : VV → Ms → Option Bool := finV [.bool] []
theorem r_s_Heavier (k : Nat) (a0 : List TEvent) (a1 : List TItem) (a2 : TEvent) (a3 : TEvent) : runX (c_s_Heavier k) fin_s_Heavier k 96 [argV (.slice 24 yEvent) a0, argV (.slice 129 yItem) a1, argV yEvent a2, argV yEvent a3] ms0 = s_Heavier k a0 a1 a2 a3 := by kernel_rfl
noncomputable def sp_s_Heavier (k : Nat) : Spec := .imm (.slice 24 yEvent) fun (a0 : List TEvent) => .imm (.slice 129 yItem) fun (a1 : List TItem) => .imm yEvent fun (a2 : TEvent) => .imm yEvent fun (a3 : TEvent) => .body (s_Heavier k a0 a1 a2 a3) (outV [.bool] [])
noncomputable def c_s_l11Behind (k : Nat) : Cfg := { eqs := [], tab := [(3, (.int .i64)), (22, (.slice 3 (.int .i64))), (24, yEvent)], spec := [(150, sp_s_l10Find k), (159, sp_s_l05In k)], mspec := [], inl := [(276, Try.f276)], keep := [(27600001003, [0, 5, 6]), (27600001007, [0, 5, 6, 7, 9])], join := [], hold := [(27600001003, [(6, [0], 3, (.int .i64), false, true)]), (27600001007, [(6, [0], 3, (.int .i64), false, true)])], ptrs := [], maps := [], fuel := k }
noncomputable def fin_s_l11Behind : VV → Ms → Option (List Int) := finV [(.slice 3 (.int .i64))] [true]
noncomputable def V0_s_l11Behind (k n : Nat) (a0 : List TEvent) (u1 : Nat) (xs2 : List Int) (xs3 : List Int) : Option (List Int) := lpN (c_s_l11Behind k) fin_s_l11Behind n true 27600001003 (cd [1, 1, 1, 0, 0, 0] (bo Try.f276)) [.b 0, .s (cd [1, 1, 1, 1] (bo Try.f276)), .fn Try.f276] ⟨⟨(mkT 73 0 [(0, one (.slc 24 yEvent a0)), (5, one (.row 9000000 none none)), (6, one (.row 9000001 (some u1) none))]), [(9000000, .row 3 (.int .i64) xs2 true), (9000001, .row 3 (.int .i64) xs3 true)]⟩, 27600001000, 1, [(0, (mkT 0 0 []))]⟩
noncomputable def V1_s_l11Behind (k n : Nat) (a0 : List TEvent) (u4 : Nat) (v5 : Int) (xs6 : List Int) (xs7 : List Int) (r1 : TEvent × Bool) : Option (List Int) := lpN (c_s_l11Behind k) fin_s_l11Behind n true 27600001007 (cd [1, 1, 1, 0, 0, 0, 1, 0, 1, 1, 1, 0, 0] (bo Try.f276)) [.b 2, .b 1, .l 27600001003 (cd [1, 1, 1, 0, 0, 0] (bo Try.f276)), .b 0, .s (cd [1, 1, 1, 1] (bo Try.f276)), .fn Try.f276] ⟨⟨(mkT 73 0 [(0, one (.slc 24 yEvent a0)), (5, one (.row 9000000 none none)), (6, one (.row 9000001 (some u4) none)), (7, one (.ptr 9000002 0)), (9, one (.int .i64 v5))]), [(9000000, .row 3 (.int .i64) xs6 true), (9000001, .row 3 (.int .i64) xs7 true), (9000002, .box [.int .i64 r1.1.1, .int .i64 r1.1.2.1, .int .i64 r1.1.2.2.1, .int .i64 r1.1.2.2.2.1, .int .i64 r1.1.2.2.2.2.1, .slc 3 (.int .i64) r1.1.2.2.2.2.2.1, .str r1.1.2.2.2.2.2.2.1, .slc 3 (.int .i64) r1.1.2.2.2.2.2.2.2.1, .int .i64 r1.1.2.2.2.2.2.2.2.2.1])]⟩, 27600001000, 1, [(0, (mkT 0 0 []))]⟩
theorem t0_s_l11Behind (k n : Nat) (a0 : List TEvent) (u1 : Nat) (xs2 : List Int) (xs3 : List Int) : V0_s_l11Behind k (n + 1) a0 u1 xs2 xs3 = b0_s_l11Behind k (V1_s_l11Behind k n) a0 u1 xs2 xs3 := by kernel_rfl
theorem t1_s_l11Behind (k n : Nat) (a0 : List TEvent) (u4 : Nat) (v5 : Int) (xs6 : List Int) (xs7 : List Int) (r1 : TEvent × Bool) : V1_s_l11Behind k (n + 1) a0 u4 v5 xs6 xs7 r1 = b1_s_l11Behind k (V1_s_l11Behind k n) (V0_s_l11Behind k n) a0 u4 v5 xs6 xs7 r1 := by kernel_rfl
theorem e_s_l11Behind (k : Nat) : ∀ n : Nat, V0_s_l11Behind k n = l0_s_l11Behind k n ∧ V1_s_l11Behind k n = l1_s_l11Behind k n
  | 0 => ⟨(by funext a0 u1 xs2 xs3; rfl), (by funext a0 u4 v5 xs6 xs7 r1; rfl)⟩
  | n + 1 => by
    obtain ⟨h0, h1⟩ := e_s_l11Behind k n
    exact ⟨(by funext a0 u1 xs2 xs3; rw [t0_s_l11Behind, h1] <;> rfl), (by funext a0 u4 v5 xs6 xs7 r1; rw [t1_s_l11Behind, h1, h0] <;> rfl)⟩
theorem u_s_l11Behind (k : Nat) (a0 : List TEvent) (a1 : Int) : runX (c_s_l11Behind k) fin_s_l11Behind k 276 [argV (.slice 24 yEvent) a0, argV (.int .i64) a1] ms0 = g_s_l11Behind k (V0_s_l11Behind k k) a0 a1 := by kernel_rfl
theorem r_s_l11Behind (k : Nat) (a0 : List TEvent) (a1 : Int) : runX (c_s_l11Behind k) fin_s_l11Behind k 276 [argV (.slice 24 yEvent) a0, argV (.int .i64) a1] ms0 = s_l11Behind k a0 a1 := by rw [u_s_l11Behind, show V0_s_l11Behind k k = l0_s_l11Behind k k from (e_s_l11Behind k k).1] <;> rfl
noncomputable def sp_s_l11Behind (k : Nat) : Spec := .imm (.slice 24 yEvent) fun (a0 : List TEvent) => .imm (.int .i64) fun (a1 : Int) => .body (s_l11Behind k a0 a1) (outV [(.slice 3 (.int .i64))] [true])
noncomputable def c_s_l11Ready (k : Nat) : Cfg := { eqs := [], tab := [(3, (.int .i64)), (22, (.slice 3 (.int .i64)))], spec := [(159, sp_s_l05In k)], mspec := [], inl := [(277, Try.f277)], keep := [(27700001002, [0, 1, 2, 7])], join := [], hold := [], ptrs := [], maps := [], fuel := k }
noncomputable def fin_s_l11Ready : VV → Ms → Option Bool := finV [.bool] []
noncomputable def V0_s_l11Ready (k n : Nat) (a0 : List Int) (a1 : List Int) (a2 : List Int) (v1 : Int) : Option Bool := lpN (c_s_l11Ready k) fin_s_l11Ready n true 27700001002 (cd [1, 0, 1, 0, 0] (bo Try.f277)) [.b 0, .s (cd [1, 1] (bo Try.f277)), .fn Try.f277] ⟨⟨(mkT 29 0 [(0, one (.slc 3 (.int .i64) a0)), (1, one (.slc 3 (.int .i64) a1)), (2, one (.slc 3 (.int .i64) a2)), (7, one (.int .i64 v1))]), []⟩, 27700001000, 1, [(0, (mkT 0 0 []))]⟩
theorem t0_s_l11Ready (k n : Nat) (a0 : List Int) (a1 : List Int) (a2 : List Int) (v1 : Int) : V0_s_l11Ready k (n + 1) a0 a1 a2 v1 = b0_s_l11Ready k (V0_s_l11Ready k n) a0 a1 a2 v1 := by kernel_rfl
theorem e_s_l11Ready (k : Nat) : ∀ n : Nat, V0_s_l11Ready k n = l0_s_l11Ready k n
  | 0 => (by funext a0 a1 a2 v1; rfl)
  | n + 1 => by
    obtain h0 := e_s_l11Ready k n
    exact (by funext a0 a1 a2 v1; rw [t0_s_l11Ready, h0] <;> rfl)
theorem u_s_l11Ready (k : Nat) (a0 : List Int) (a1 : List Int) (a2 : List Int) : runX (c_s_l11Ready k) fin_s_l11Ready k 277 [argV (.slice 3 (.int .i64)) a0, argV (.slice 3 (.int .i64)) a1, argV (.slice 3 (.int .i64)) a2] ms0 = g_s_l11Ready k (V0_s_l11Ready k k) a0 a1 a2 := by kernel_rfl
theorem r_s_l11Ready (k : Nat) (a0 : List Int) (a1 : List Int) (a2 : List Int) : runX (c_s_l11Ready k) fin_s_l11Ready k 277 [argV (.slice 3 (.int .i64)) a0, argV (.slice 3 (.int .i64)) a1, argV (.slice 3 (.int .i64)) a2] ms0 = s_l11Ready k a0 a1 a2 := by rw [u_s_l11Ready, show V0_s_l11Ready k k = l0_s_l11Ready k k from (e_s_l11Ready k k)] <;> rfl
noncomputable def sp_s_l11Ready (k : Nat) : Spec := .imm (.slice 3 (.int .i64)) fun (a0 : List Int) => .imm (.slice 3 (.int .i64)) fun (a1 : List Int) => .imm (.slice 3 (.int .i64)) fun (a2 : List Int) => .body (s_l11Ready k a0 a1 a2) (outV [.bool] [])
noncomputable def c_s_Order (k : Nat) : Cfg := { eqs := [], tab := [(3, (.int .i64)), (22, (.slice 3 (.int .i64))), (24, yEvent), (269, (.slice 22 (.slice 3 (.int .i64))))], spec := [(96, sp_s_Heavier k), (150, sp_s_l10Find k), (151, sp_s_l11Add k), (159, sp_s_l05In k), (276, sp_s_l11Behind k), (277, sp_s_l11Ready k)], mspec := [], inl := [(273, Try.f273)], keep := [(27300001003, [0, 1, 2, 7, 8]), (27300001010, [0, 1, 7, 11, 12]), (27300001014, [0, 1, 7, 11, 13]), (27300001018, [0, 1, 7, 11, 13, 14, 15, 16])], join := [], hold := [], ptrs := [], maps := [], fuel := k }
noncomputable def fin_s_Order : VV → Ms → Option (List Int) := finV [(.slice 3 (.int .i64))] [true]
noncomputable def V2_s_Order (k n : Nat) (a0 : List TEvent) (a1 : List TItem) (xs2 : List Int) (xs4 : List (List Int)) (xs5 : List Int) : Option (List Int) := lpN (c_s_Order k) fin_s_Order n true 27300001014 (cd [1, 1, 1, 1, 1, 1, 0, 0, 0] (bo Try.f273)) [.b 4, .s (cd [1, 1, 1, 1, 1, 1, 1] (bo Try.f273)), .fn Try.f273] ⟨⟨(mkT 115 0 [(0, one (.slc 24 yEvent a0)), (1, one (.slc 129 yItem a1)), (7, one (.row 9000000 none none)), (11, one (.row 9000001 none none)), (13, one (.row 9000002 none none))]), [(9000000, .row 3 (.int .i64) xs2 true), (9000001, .row 22 (.slice 3 (.int .i64)) xs4 true), (9000002, .row 3 (.int .i64) xs5 true)]⟩, 27300001000, 1, [(0, (mkT 0 0 []))]⟩
noncomputable def V3_s_Order (k n : Nat) (a0 : List TEvent) (a1 : List TItem) (v6 : Int) (xs2 : List Int) (xs4 : List (List Int)) (xs5 : List Int) : Option (List Int) := lpN (c_s_Order k) fin_s_Order n true 27300001018 (cd [1, 1, 1, 1, 1, 1, 0, 0, 0, 1, 0, 1, 1, 0, 1, 0, 0] (bo Try.f273)) [.b 6, .s (cd [1, 1, 1, 1, 1, 1, 0, 0, 0, 1, 0, 1, 1, 1] (bo Try.f273)), .b 5, .l 27300001014 (cd [1, 1, 1, 1, 1, 1, 0, 0, 0] (bo Try.f273)), .b 4, .s (cd [1, 1, 1, 1, 1, 1, 1] (bo Try.f273)), .fn Try.f273] ⟨⟨(mkT 115 0 [(0, one (.slc 24 yEvent a0)), (1, one (.slc 129 yItem a1)), (7, one (.row 9000000 none none)), (11, one (.row 9000001 none none)), (13, one (.row 9000002 none none)), (14, one (.ptr 9000003 0)), (15, one (.bool false)), (16, one (.int .i64 v6))]), [(9000000, .row 3 (.int .i64) xs2 true), (9000001, .row 22 (.slice 3 (.int .i64)) xs4 true), (9000002, .row 3 (.int .i64) xs5 true), (9000003, .box [.int .i64 0, .int .i64 0, .int .i64 0, .int .i64 0, .int .i64 0, .nilS, .str ByteArray.empty, .nilS, .int .i64 0])]⟩, 27300001000, 1, [(0, (mkT 0 0 []))]⟩
noncomputable def V4_s_Order (k n : Nat) (a0 : List TEvent) (a1 : List TItem) (v7 : Int) (xs2 : List Int) (xs4 : List (List Int)) (xs5 : List Int) (v8 : Int) (v9 : Int) (v10 : Int) (v11 : Int) (v12 : Int) (v13 : List Int) (v14 : ByteArray) (v15 : List Int) (v16 : Int) : Option (List Int) := lpN (c_s_Order k) fin_s_Order n true 27300001018 (cd [1, 1, 1, 1, 1, 1, 0, 0, 0, 1, 0, 1, 1, 0, 1, 0, 0] (bo Try.f273)) [.b 6, .s (cd [1, 1, 1, 1, 1, 1, 0, 0, 0, 1, 0, 1, 1, 1] (bo Try.f273)), .b 5, .l 27300001014 (cd [1, 1, 1, 1, 1, 1, 0, 0, 0] (bo Try.f273)), .b 4, .s (cd [1, 1, 1, 1, 1, 1, 1] (bo Try.f273)), .fn Try.f273] ⟨⟨(mkT 115 0 [(0, one (.slc 24 yEvent a0)), (1, one (.slc 129 yItem a1)), (7, one (.row 9000000 none none)), (11, one (.row 9000001 none none)), (13, one (.row 9000002 none none)), (14, one (.ptr 9000003 0)), (15, one (.bool true)), (16, one (.int .i64 v7))]), [(9000000, .row 3 (.int .i64) xs2 true), (9000001, .row 22 (.slice 3 (.int .i64)) xs4 true), (9000002, .row 3 (.int .i64) xs5 true), (9000003, .box [.int .i64 v8, .int .i64 v9, .int .i64 v10, .int .i64 v11, .int .i64 v12, .slc 3 (.int .i64) v13, .str v14, .slc 3 (.int .i64) v15, .int .i64 v16])]⟩, 27300001000, 1, [(0, (mkT 0 0 []))]⟩
noncomputable def V1_s_Order (k n : Nat) (a0 : List TEvent) (a1 : List TItem) (v3 : Int) (xs2 : List Int) (xs4 : List (List Int)) : Option (List Int) := lpN (c_s_Order k) fin_s_Order n true 27300001010 (cd [1, 1, 1, 1, 0, 1, 0, 0] (bo Try.f273)) [.b 2, .s (cd [1, 1, 1, 1, 1] (bo Try.f273)), .fn Try.f273] ⟨⟨(mkT 115 0 [(0, one (.slc 24 yEvent a0)), (1, one (.slc 129 yItem a1)), (7, one (.row 9000000 none none)), (11, one (.row 9000001 none none)), (12, one (.int .i64 v3))]), [(9000000, .row 3 (.int .i64) xs2 true), (9000001, .row 22 (.slice 3 (.int .i64)) xs4 true)]⟩, 27300001000, 1, [(0, (mkT 0 0 []))]⟩
noncomputable def V0_s_Order (k n : Nat) (a0 : List TEvent) (a1 : List TItem) (a2 : List Int) (v1 : Int) (xs2 : List Int) : Option (List Int) := lpN (c_s_Order k) fin_s_Order n true 27300001003 (cd [1, 1, 0, 1, 0, 0] (bo Try.f273)) [.b 0, .s (cd [1, 1, 1] (bo Try.f273)), .fn Try.f273] ⟨⟨(mkT 115 0 [(0, one (.slc 24 yEvent a0)), (1, one (.slc 129 yItem a1)), (2, one (.slc 3 (.int .i64) a2)), (7, one (.row 9000000 none none)), (8, one (.int .i64 v1))]), [(9000000, .row 3 (.int .i64) xs2 true)]⟩, 27300001000, 1, [(0, (mkT 0 0 []))]⟩
theorem t2_s_Order (k n : Nat) (a0 : List TEvent) (a1 : List TItem) (xs2 : List Int) (xs4 : List (List Int)) (xs5 : List Int) : V2_s_Order k (n + 1) a0 a1 xs2 xs4 xs5 = b2_s_Order k (V3_s_Order k n) a0 a1 xs2 xs4 xs5 := by kernel_rfl
theorem t3_s_Order (k n : Nat) (a0 : List TEvent) (a1 : List TItem) (v6 : Int) (xs2 : List Int) (xs4 : List (List Int)) (xs5 : List Int) : V3_s_Order k (n + 1) a0 a1 v6 xs2 xs4 xs5 = b3_s_Order k (V3_s_Order k n) (V4_s_Order k n) a0 a1 v6 xs2 xs4 xs5 := by kernel_rfl
theorem t4_s_Order (k n : Nat) (a0 : List TEvent) (a1 : List TItem) (v7 : Int) (xs2 : List Int) (xs4 : List (List Int)) (xs5 : List Int) (v8 : Int) (v9 : Int) (v10 : Int) (v11 : Int) (v12 : Int) (v13 : List Int) (v14 : ByteArray) (v15 : List Int) (v16 : Int) : V4_s_Order k (n + 1) a0 a1 v7 xs2 xs4 xs5 v8 v9 v10 v11 v12 v13 v14 v15 v16 = b4_s_Order k (V4_s_Order k n) (V2_s_Order k n) a0 a1 v7 xs2 xs4 xs5 v8 v9 v10 v11 v12 v13 v14 v15 v16 := by kernel_rfl
theorem t1_s_Order (k n : Nat) (a0 : List TEvent) (a1 : List TItem) (v3 : Int) (xs2 : List Int) (xs4 : List (List Int)) : V1_s_Order k (n + 1) a0 a1 v3 xs2 xs4 = b1_s_Order k (V1_s_Order k n) (V2_s_Order k n) a0 a1 v3 xs2 xs4 := by kernel_rfl
theorem t0_s_Order (k n : Nat) (a0 : List TEvent) (a1 : List TItem) (a2 : List Int) (v1 : Int) (xs2 : List Int) : V0_s_Order k (n + 1) a0 a1 a2 v1 xs2 = b0_s_Order k (V0_s_Order k n) (V1_s_Order k n) a0 a1 a2 v1 xs2 := by kernel_rfl
theorem e_s_Order (k : Nat) : ∀ n : Nat, V2_s_Order k n = l2_s_Order k n ∧ V3_s_Order k n = l3_s_Order k n ∧ V4_s_Order k n = l4_s_Order k n ∧ V1_s_Order k n = l1_s_Order k n ∧ V0_s_Order k n = l0_s_Order k n
  | 0 => ⟨(by funext a0 a1 xs2 xs4 xs5; rfl), (by funext a0 a1 v6 xs2 xs4 xs5; rfl), (by funext a0 a1 v7 xs2 xs4 xs5 v8 v9 v10 v11 v12 v13 v14 v15 v16; rfl), (by funext a0 a1 v3 xs2 xs4; rfl), (by funext a0 a1 a2 v1 xs2; rfl)⟩
  | n + 1 => by
    obtain ⟨h2, h3, h4, h1, h0⟩ := e_s_Order k n
    exact ⟨(by funext a0 a1 xs2 xs4 xs5; rw [t2_s_Order, h3] <;> rfl), (by funext a0 a1 v6 xs2 xs4 xs5; rw [t3_s_Order, h3, h4] <;> rfl), (by funext a0 a1 v7 xs2 xs4 xs5 v8 v9 v10 v11 v12 v13 v14 v15 v16; rw [t4_s_Order, h4, h2] <;> rfl), (by funext a0 a1 v3 xs2 xs4; rw [t1_s_Order, h1, h2] <;> rfl), (by funext a0 a1 a2 v1 xs2; rw [t0_s_Order, h0, h1] <;> rfl)⟩
theorem u_s_Order (k : Nat) (a0 : List TEvent) (a1 : List TItem) (a2 : List Int) : runX (c_s_Order k) fin_s_Order k 273 [argV (.slice 24 yEvent) a0, argV (.slice 129 yItem) a1, argV (.slice 3 (.int .i64)) a2] ms0 = g_s_Order k (V0_s_Order k k) a0 a1 a2 := by kernel_rfl
theorem r_s_Order (k : Nat) (a0 : List TEvent) (a1 : List TItem) (a2 : List Int) : runX (c_s_Order k) fin_s_Order k 273 [argV (.slice 24 yEvent) a0, argV (.slice 129 yItem) a1, argV (.slice 3 (.int .i64)) a2] ms0 = s_Order k a0 a1 a2 := by rw [u_s_Order, show V0_s_Order k k = l0_s_Order k k from (e_s_Order k k).2.2.2.2] <;> rfl
noncomputable def sp_s_Order (k : Nat) : Spec := .imm (.slice 24 yEvent) fun (a0 : List TEvent) => .imm (.slice 129 yItem) fun (a1 : List TItem) => .imm (.slice 3 (.int .i64)) fun (a2 : List Int) => .body (s_Order k a0 a1 a2) (outV [(.slice 3 (.int .i64))] [true])
noncomputable def c_s_Resolve (k : Nat) : Cfg := { eqs := [], tab := [(3, (.int .i64)), (22, (.slice 3 (.int .i64))), (24, yEvent), (45, (.slice 78 (.slice 129 yItem))), (78, (.slice 129 yItem))], spec := [(47, sp_s_Agreed k), (55, sp_s_Clash k), (144, sp_s_At k), (150, sp_s_l10Find k), (264, sp_s_Allowed k), (265, sp_s_KeyOf k), (266, sp_s_Put k), (273, sp_s_Order k)], mspec := [], inl := [(268, Try.f268)], keep := [(26800001009, [0, 1, 5, 6, 7, 8]), (26800001012, [0, 1, 5, 6, 7, 8, 9]), (26800001019, [0, 5, 11, 12])], join := [], hold := [], ptrs := [], maps := [], fuel := k }
noncomputable def fin_s_Resolve : VV → Ms → Option (List TItem) := finV [(.slice 129 yItem)] [true]
noncomputable def V2_s_Resolve (k n : Nat) (a0 : List TEvent) (v5 : Int) (r1 : List TItem) (r5 : List Int) : Option (List TItem) := lpN (c_s_Resolve k) fin_s_Resolve n true 26800001019 (cd [1, 1, 1, 1, 1, 1, 1, 1, 0, 1, 0, 0] (bo Try.f268)) [.b 4, .s (cd [1, 1, 1, 1, 1, 1, 1, 1, 1] (bo Try.f268)), .fn Try.f268] ⟨⟨(mkT 95 0 [(0, one (.slc 24 yEvent a0)), (5, one (.row 9000000 none none)), (11, one (.row 9000001 none none)), (12, one (.int .i64 v5))]), [(9000000, .row 129 yItem r1 true), (9000001, .row 3 (.int .i64) r5 true)]⟩, 26800001000, 1, [(0, (mkT 0 0 []))]⟩
noncomputable def V0_s_Resolve (k n : Nat) (a0 : List TEvent) (a1 : List (List TItem)) (v1 : Int) (r1 : List TItem) (r2 : List Int) (xs2 : List Int) : Option (List TItem) := lpN (c_s_Resolve k) fin_s_Resolve n true 26800001009 (cd [1, 1, 1, 1, 1, 1, 0, 1, 0, 0] (bo Try.f268)) [.b 0, .s (cd [1, 1, 1, 1, 1, 1, 1] (bo Try.f268)), .fn Try.f268] ⟨⟨(mkT 95 0 [(0, one (.slc 24 yEvent a0)), (1, one (.slc 78 (.slice 129 yItem) a1)), (5, one (.row 9000000 none none)), (6, one (.row 9000001 none none)), (7, one (.row 9000002 none none)), (8, one (.int .i64 v1))]), [(9000000, .row 129 yItem r1 true), (9000001, .row 3 (.int .i64) r2 true), (9000002, .row 3 (.int .i64) xs2 true)]⟩, 26800001000, 1, [(0, (mkT 0 0 []))]⟩
noncomputable def V1_s_Resolve (k n : Nat) (a0 : List TEvent) (a1 : List (List TItem)) (v1 : Int) (v3 : Int) (r1 : List TItem) (r2 : List Int) (xs4 : List Int) : Option (List TItem) := lpN (c_s_Resolve k) fin_s_Resolve n true 26800001012 (cd [1, 1, 1, 1, 1, 1, 0, 1, 0, 0, 1, 0, 0, 1, 0, 0] (bo Try.f268)) [.b 2, .b 1, .s (cd [1, 1, 1, 1, 1, 1, 0, 1, 0, 0, 1, 1] (bo Try.f268)), .l 26800001009 (cd [1, 1, 1, 1, 1, 1, 0, 1, 0, 0] (bo Try.f268)), .b 0, .s (cd [1, 1, 1, 1, 1, 1, 1] (bo Try.f268)), .fn Try.f268] ⟨⟨(mkT 95 0 [(0, one (.slc 24 yEvent a0)), (1, one (.slc 78 (.slice 129 yItem) a1)), (5, one (.row 9000000 none none)), (6, one (.row 9000001 none none)), (7, one (.row 9000002 none none)), (8, one (.int .i64 v1)), (9, one (.int .i64 v3))]), [(9000000, .row 129 yItem r1 true), (9000001, .row 3 (.int .i64) r2 true), (9000002, .row 3 (.int .i64) xs4 true)]⟩, 26800001000, 1, [(0, (mkT 0 0 []))]⟩
theorem t2_s_Resolve (k n : Nat) (a0 : List TEvent) (v5 : Int) (r1 : List TItem) (r5 : List Int) : V2_s_Resolve k (n + 1) a0 v5 r1 r5 = b2_s_Resolve k (V2_s_Resolve k n) a0 v5 r1 r5 := by kernel_rfl
theorem t0_s_Resolve (k n : Nat) (a0 : List TEvent) (a1 : List (List TItem)) (v1 : Int) (r1 : List TItem) (r2 : List Int) (xs2 : List Int) : V0_s_Resolve k (n + 1) a0 a1 v1 r1 r2 xs2 = b0_s_Resolve k (V1_s_Resolve k n) (V2_s_Resolve k n) a0 a1 v1 r1 r2 xs2 := by kernel_rfl
theorem t1_s_Resolve (k n : Nat) (a0 : List TEvent) (a1 : List (List TItem)) (v1 : Int) (v3 : Int) (r1 : List TItem) (r2 : List Int) (xs4 : List Int) : V1_s_Resolve k (n + 1) a0 a1 v1 v3 r1 r2 xs4 = b1_s_Resolve k (V1_s_Resolve k n) (V0_s_Resolve k n) a0 a1 v1 v3 r1 r2 xs4 := by kernel_rfl
theorem e_s_Resolve (k : Nat) : ∀ n : Nat, V2_s_Resolve k n = l2_s_Resolve k n ∧ V0_s_Resolve k n = l0_s_Resolve k n ∧ V1_s_Resolve k n = l1_s_Resolve k n
  | 0 => ⟨(by funext a0 v5 r1 r5; rfl), (by funext a0 a1 v1 r1 r2 xs2; rfl), (by funext a0 a1 v1 v3 r1 r2 xs4; rfl)⟩
  | n + 1 => by
    obtain ⟨h2, h0, h1⟩ := e_s_Resolve k n
    exact ⟨(by funext a0 v5 r1 r5; rw [t2_s_Resolve, h2] <;> rfl), (by funext a0 a1 v1 r1 r2 xs2; rw [t0_s_Resolve, h1, h2] <;> rfl), (by funext a0 a1 v1 v3 r1 r2 xs4; rw [t1_s_Resolve, h1, h0] <;> rfl)⟩
theorem u_s_Resolve (k : Nat) (a0 : List TEvent) (a1 : List (List TItem)) : runX (c_s_Resolve k) fin_s_Resolve k 268 [argV (.slice 24 yEvent) a0, argV (.slice 78 (.slice 129 yItem)) a1] ms0 = g_s_Resolve k (V0_s_Resolve k k) a0 a1 := by kernel_rfl
theorem r_s_Resolve (k : Nat) (a0 : List TEvent) (a1 : List (List TItem)) : runX (c_s_Resolve k) fin_s_Resolve k 268 [argV (.slice 24 yEvent) a0, argV (.slice 78 (.slice 129 yItem)) a1] ms0 = s_Resolve k a0 a1 := by rw [u_s_Resolve, show V0_s_Resolve k k = l0_s_Resolve k k from (e_s_Resolve k k).2.1] <;> rfl
noncomputable def sp_s_Resolve (k : Nat) : Spec := .imm (.slice 24 yEvent) fun (a0 : List TEvent) => .imm (.slice 78 (.slice 129 yItem)) fun (a1 : List (List TItem)) => .body (s_Resolve k a0 a1) (outV [(.slice 129 yItem)] [true])
noncomputable def c_s_l12Before (k : Nat) : Cfg := { eqs := [], tab := [(3, (.int .i64)), (22, (.slice 3 (.int .i64))), (44, (.slice 24 yEvent)), (45, (.slice 78 (.slice 129 yItem))), (47, yRoom1), (78, (.slice 129 yItem))], spec := [(230, sp_s_l12Has k), (268, sp_s_Resolve k)], mspec := [], inl := [(263, Try.f263)], keep := [(26300001003, [1, 2, 6, 7])], join := [], hold := [], ptrs := [], maps := [], fuel := k }
noncomputable def fin_s_l12Before : VV → Ms → Option (List TItem × Bool) := finV [(.slice 129 yItem), .bool] [true]
noncomputable def V0_s_l12Before (k n : Nat) (a1 : List Int) (v1 : Int) (a0 : TRoom) (xs2 : List (List TItem)) : Option (List TItem × Bool) := lpN (c_s_l12Before k) fin_s_l12Before n true 26300001003 (cd [1, 1, 0, 1, 0, 0] (bo Try.f263)) [.b 0, .s (cd [1, 1, 1] (bo Try.f263)), .fn Try.f263] ⟨⟨(mkT 44 0 [(1, one (.slc 3 (.int .i64) a1)), (2, one (.ptr 9000000 0)), (6, one (.row 9000001 none none)), (7, one (.int .i64 v1))]), [(9000000, .box [.slc 24 yEvent a0.1, .slc 78 (.slice 129 yItem) a0.2.1, .slc 4 .bool a0.2.2.1]), (9000001, .row 78 (.slice 129 yItem) xs2 true)]⟩, 26300001000, 1, [(0, (mkT 0 0 []))]⟩
theorem t0_s_l12Before (k n : Nat) (a1 : List Int) (v1 : Int) (a0 : TRoom) (xs2 : List (List TItem)) : V0_s_l12Before k (n + 1) a1 v1 a0 xs2 = b0_s_l12Before k (V0_s_l12Before k n) a1 v1 a0 xs2 := by kernel_rfl
theorem e_s_l12Before (k : Nat) : ∀ n : Nat, V0_s_l12Before k n = l0_s_l12Before k n
  | 0 => (by funext a1 v1 a0 xs2; rfl)
  | n + 1 => by
    obtain h0 := e_s_l12Before k n
    exact (by funext a1 v1 a0 xs2; rw [t0_s_l12Before, h0] <;> rfl)
theorem u_s_l12Before (k : Nat) (a0 : TRoom) (a1 : List Int) : runX (c_s_l12Before k) fin_s_l12Before k 263 [argV yRoom1 a0, argV (.slice 3 (.int .i64)) a1] ms0 = g_s_l12Before k (V0_s_l12Before k k) a0 a1 := by kernel_rfl
theorem r_s_l12Before (k : Nat) (a0 : TRoom) (a1 : List Int) : runX (c_s_l12Before k) fin_s_l12Before k 263 [argV yRoom1 a0, argV (.slice 3 (.int .i64)) a1] ms0 = s_l12Before k a0 a1 := by rw [u_s_l12Before, show V0_s_l12Before k k = l0_s_l12Before k k from (e_s_l12Before k k)] <;> rfl
noncomputable def sp_s_l12Before (k : Nat) : Spec := .imm yRoom1 fun (a0 : TRoom) => .imm (.slice 3 (.int .i64)) fun (a1 : List Int) => .body (s_l12Before k a0 a1) (outV [(.slice 129 yItem), .bool] [true])
noncomputable def c_s_l12Next (k : Nat) : Cfg := { eqs := [], tab := [(3, (.int .i64)), (22, (.slice 3 (.int .i64))), (24, yEvent), (44, (.slice 24 yEvent)), (47, yRoom1)], spec := [(73, sp_s_EndsOf k), (166, sp_s_DepthOf k), (263, sp_s_l12Before k), (264, sp_s_Allowed k)], mspec := [(172, sp_s_l01Below k), (173, sp_s_l01Once k), (214, sp_s_l09Bodied k)], inl := [(255, Try.f255)], keep := [(25500001008, [0, 2, 4, 6, 7, 8, 9, 10]), (25500001018, [0, 2, 4, 6, 7, 11, 13])], join := [], hold := [], ptrs := [], maps := [], fuel := k }
noncomputable def fin_s_l12Next : VV → Ms → Option (TEvent × TL01Cur × Unit) := finM [yEvent] [true, true] [.box yL01Cur, .imm yRoom1, .imm (.int .i64)]
noncomputable def V1_s_l12Next (k n : Nat) (a2 : Int) (v6 : Int) (v7 : List Int) (v8 : Int) (v9 : Int) (a1 : TRoom) (v10 : Int) (v11 : Int) (v12 : Int) (v13 : Int) (v14 : ByteArray) (r6 : Int) (xs15 : List TItem) (xs16 : List Int) (xs17 : List Int) : Option (TEvent × TL01Cur × Unit) := lpN (c_s_l12Next k) fin_s_l12Next n true 25500001018 (cd [1, 1, 1, 1, 1, 1, 1, 1, 1, 1, 1, 0, 1, 0, 0] (bo Try.f255)) [.b 2, .s (cd [1, 1, 1, 1, 1, 1, 1, 1, 1, 1, 1, 1] (bo Try.f255)), .fn Try.f255] ⟨⟨(mkT 130 0 [(0, one (.ptr 9000000 0)), (2, one (.int .i64 a2)), (4, one (.ptr 9000001 0)), (6, one (.ptr 9000002 0)), (7, one (.ptr 9000003 0)), (11, one (.row 9000004 none none)), (13, one (.int .i64 v6))]), [(9000000, .box [.slc 5 (.int .u8) v7, .int .i64 v8, .int .i64 v9]), (9000001, .box [.slc 24 yEvent a1.1, .slc 78 (.slice 129 yItem) a1.2.1, .slc 4 .bool a1.2.2.1]), (9000002, .box [.int .i64 0, .int .i64 0, .int .i64 0, .int .i64 0, .int .i64 0, .nilS, .str ByteArray.empty, .nilS, .int .i64 0]), (9000003, .box [.int .i64 a2, .int .i64 v10, .int .i64 v11, .int .i64 v12, .int .i64 v13, .row 9000005 none none, .str v14, .row 9000006 none none, .int .i64 r6]), (9000004, .row 129 yItem xs15 true), (9000005, .row 3 (.int .i64) xs16 true), (9000006, .row 3 (.int .i64) xs17 true)]⟩, 25500001000, 1, [(0, (mkT 3 0 [(0, one (.ptr 9000000 0))]))]⟩
noncomputable def V0_s_l12Next (k n : Nat) (a2 : Int) (v1 : Int) (v2 : List Int) (v3 : Int) (v4 : Int) (a1 : TRoom) (r1 : TEvent × TL01Cur × Unit) (r2 : List Int) (xs5 : List Int) : Option (TEvent × TL01Cur × Unit) := lpN (c_s_l12Next k) fin_s_l12Next n true 25500001008 (cd [1, 1, 1, 1, 1, 1, 0, 1, 0, 0] (bo Try.f255)) [.b 0, .s (cd [1, 1, 1, 1, 1, 1, 1] (bo Try.f255)), .fn Try.f255] ⟨⟨(mkT 130 0 [(0, one (.ptr 9000000 0)), (2, one (.int .i64 a2)), (4, one (.ptr 9000001 0)), (6, one (.ptr 9000002 0)), (7, one (.ptr 9000003 0)), (8, one (.row 9000004 none none)), (9, one (.row 9000005 none none)), (10, one (.int .i64 v1))]), [(9000000, .box [.slc 5 (.int .u8) v2, .int .i64 v3, .int .i64 v4]), (9000001, .box [.slc 24 yEvent a1.1, .slc 78 (.slice 129 yItem) a1.2.1, .slc 4 .bool a1.2.2.1]), (9000002, .box [.int .i64 0, .int .i64 0, .int .i64 0, .int .i64 0, .int .i64 0, .nilS, .str ByteArray.empty, .nilS, .int .i64 0]), (9000003, .box [.int .i64 a2, .int .i64 r1.1.2.1, .int .i64 r1.1.2.2.1, .int .i64 r1.1.2.2.2.1, .int .i64 r1.1.2.2.2.2.1, .row 9000006 none none, .str r1.1.2.2.2.2.2.2.1, .row 9000007 none none, .int .i64 r1.1.2.2.2.2.2.2.2.2.1]), (9000004, .row 3 (.int .i64) r2 true), (9000005, .row 3 (.int .i64) xs5 true), (9000006, .row 3 (.int .i64) r1.1.2.2.2.2.2.1 true), (9000007, .row 3 (.int .i64) r1.1.2.2.2.2.2.2.2.1 true)]⟩, 25500001000, 1, [(0, (mkT 3 0 [(0, one (.ptr 9000000 0))]))]⟩
theorem t1_s_l12Next (k n : Nat) (a2 : Int) (v6 : Int) (v7 : List Int) (v8 : Int) (v9 : Int) (a1 : TRoom) (v10 : Int) (v11 : Int) (v12 : Int) (v13 : Int) (v14 : ByteArray) (r6 : Int) (xs15 : List TItem) (xs16 : List Int) (xs17 : List Int) : V1_s_l12Next k (n + 1) a2 v6 v7 v8 v9 a1 v10 v11 v12 v13 v14 r6 xs15 xs16 xs17 = b1_s_l12Next k (V1_s_l12Next k n) a2 v6 v7 v8 v9 a1 v10 v11 v12 v13 v14 r6 xs15 xs16 xs17 := by kernel_rfl
theorem t0_s_l12Next (k n : Nat) (a2 : Int) (v1 : Int) (v2 : List Int) (v3 : Int) (v4 : Int) (a1 : TRoom) (r1 : TEvent × TL01Cur × Unit) (r2 : List Int) (xs5 : List Int) : V0_s_l12Next k (n + 1) a2 v1 v2 v3 v4 a1 r1 r2 xs5 = b0_s_l12Next k (V0_s_l12Next k n) (V1_s_l12Next k n) a2 v1 v2 v3 v4 a1 r1 r2 xs5 := by kernel_rfl
theorem e_s_l12Next (k : Nat) : ∀ n : Nat, V1_s_l12Next k n = l1_s_l12Next k n ∧ V0_s_l12Next k n = l0_s_l12Next k n
  | 0 => ⟨(by funext a2 v6 v7 v8 v9 a1 v10 v11 v12 v13 v14 r6 xs15 xs16 xs17; rfl), (by funext a2 v1 v2 v3 v4 a1 r1 r2 xs5; rfl)⟩
  | n + 1 => by
    obtain ⟨h1, h0⟩ := e_s_l12Next k n
    exact ⟨(by funext a2 v6 v7 v8 v9 a1 v10 v11 v12 v13 v14 r6 xs15 xs16 xs17; rw [t1_s_l12Next, h1] <;> rfl), (by funext a2 v1 v2 v3 v4 a1 r1 r2 xs5; rw [t0_s_l12Next, h0, h1] <;> rfl)⟩
theorem u_s_l12Next (k : Nat) (a0 : TL01Cur) (a1 : TRoom) (a2 : Int) : runX (c_s_l12Next k) fin_s_l12Next k 255 (pArgsV 1 [.box yL01Cur, .imm yRoom1, .imm (.int .i64)] (a0, a1, a2, ())) (ms1 [.box yL01Cur, .imm yRoom1, .imm (.int .i64)] (a0, a1, a2, ())) = g_s_l12Next k (V0_s_l12Next k k) a0 a1 a2 := by kernel_rfl
theorem r_s_l12Next (k : Nat) (a0 : TL01Cur) (a1 : TRoom) (a2 : Int) : runX (c_s_l12Next k) fin_s_l12Next k 255 (pArgsV 1 [.box yL01Cur, .imm yRoom1, .imm (.int .i64)] (a0, a1, a2, ())) (ms1 [.box yL01Cur, .imm yRoom1, .imm (.int .i64)] (a0, a1, a2, ())) = s_l12Next k a0 a1 a2 := by rw [u_s_l12Next, show V0_s_l12Next k k = l0_s_l12Next k k from (e_s_l12Next k k).2] <;> rfl
noncomputable def sp_s_l12Next (k : Nat) : MSpec := .box yL01Cur fun (a0 : TL01Cur) => .imm yRoom1 fun (a1 : TRoom) => .imm (.int .i64) fun (a2 : Int) => .body (s_l12Next k a0 a1 a2) (fun r => outV [yEvent] [true, true] r.1) (fun r => poV [.box yL01Cur, .imm yRoom1, .imm (.int .i64)] r.2)
noncomputable def c_s_l13Command (k : Nat) : Cfg := { eqs := [], tab := [(3, (.int .i64)), (22, (.slice 3 (.int .i64))), (24, yEvent), (26, yCommand), (43, (.slice 149 ySession)), (47, yRoom1), (50, yHall1), (149, ySession)], spec := [(29, sp_s_EventOk k)], mspec := [(172, sp_s_l01Below k), (173, sp_s_l01Once k), (215, sp_s_l01PickInt k), (255, sp_s_l12Next k)], inl := [(252, Try.f252)], keep := [(25250001006, [0, 3, 4, 5])], join := [(25200001006, 25250001006)], hold := [], ptrs := [], maps := [], fuel := k }
noncomputable def fin_s_l13Command : VV → Ms → Option (TCommand × TL01Cur × Unit) := finM [yCommand] [true, true] [.box yL01Cur, .imm yHall1]
noncomputable def V0_s_l13Command (k n : Nat) (v1 : List Int) (v2 : Int) (v3 : Int) (a1 : THall) (v4 : Int) : Option (TCommand × TL01Cur × Unit) := lpN (c_s_l13Command k) fin_s_l13Command n false 25250001006 (cd [1, 1, 1, 1] (bo Try.f252)) [.fn Try.f252] ⟨⟨(mkT 122 0 [(0, one (.ptr 9000000 0)), (3, one (.ptr 9000001 0)), (4, one (.ptr 9000002 0)), (5, one (.ptr 9000003 0))]), [(9000000, .box [.slc 5 (.int .u8) v1, .int .i64 v2, .int .i64 v3]), (9000001, .box [.slc 149 ySession a1.1, .slc 24 yEvent a1.2.1.1, .slc 78 (.slice 129 yItem) a1.2.1.2.1, .slc 4 .bool a1.2.1.2.2.1, .slc 151 yOut a1.2.2.1]), (9000002, .box [.int .i64 0, .int .i64 0, .int .i64 0, .int .i64 0, .int .i64 0, .int .i64 0, .int .i64 0, .int .i64 0, .nilS, .str ByteArray.empty, .nilS, .int .i64 0, .int .i64 0, .int .i64 0]), (9000003, .box [.int .i64 v4, .int .i64 0, .int .i64 0, .int .i64 0, .int .i64 0, .int .i64 0, .int .i64 0, .int .i64 0, .nilS, .str ByteArray.empty, .nilS, .int .i64 0, .int .i64 0, .int .i64 0])]⟩, 25200001000, 1, [(0, (mkT 2 0 [(0, one (.ptr 9000000 0))]))]⟩
theorem t0_s_l13Command (k n : Nat) (v1 : List Int) (v2 : Int) (v3 : Int) (a1 : THall) (v4 : Int) : V0_s_l13Command k (n + 1) v1 v2 v3 a1 v4 = b0_s_l13Command k v1 v2 v3 a1 v4 := by kernel_rfl
theorem e_s_l13Command (k : Nat) : ∀ n : Nat, V0_s_l13Command k n = l0_s_l13Command k n
  | 0 => (by funext v1 v2 v3 a1 v4; rfl)
  | n + 1 => by
    obtain h0 := e_s_l13Command k n
    exact (by funext v1 v2 v3 a1 v4; rw [t0_s_l13Command] <;> rfl)
theorem u_s_l13Command (k : Nat) (a0 : TL01Cur) (a1 : THall) : runX (c_s_l13Command k) fin_s_l13Command k 252 (pArgsV 1 [.box yL01Cur, .imm yHall1] (a0, a1, ())) (ms1 [.box yL01Cur, .imm yHall1] (a0, a1, ())) = g_s_l13Command k (V0_s_l13Command k k) a0 a1 := by kernel_rfl
theorem r_s_l13Command (k : Nat) (a0 : TL01Cur) (a1 : THall) : runX (c_s_l13Command k) fin_s_l13Command k 252 (pArgsV 1 [.box yL01Cur, .imm yHall1] (a0, a1, ())) (ms1 [.box yL01Cur, .imm yHall1] (a0, a1, ())) = s_l13Command k a0 a1 := by rw [u_s_l13Command, show V0_s_l13Command k k = l0_s_l13Command k k from (e_s_l13Command k k)] <;> rfl
noncomputable def sp_s_l13Command (k : Nat) : MSpec := .box yL01Cur fun (a0 : TL01Cur) => .imm yHall1 fun (a1 : THall) => .body (s_l13Command k a0 a1) (fun r => outV [yCommand] [true, true] r.1) (fun r => poV [.box yL01Cur, .imm yHall1] r.2)
noncomputable def c_s_l14Right (k : Nat) : Cfg := { eqs := [], tab := [(26, yCommand), (43, (.slice 149 ySession)), (50, yHall1), (149, ySession)], spec := [(251, sp_s_HallNew k)], mspec := [(172, sp_s_l01Below k), (252, sp_s_l13Command k)], inl := [(232, Try.f232)], keep := [], join := [], hold := [], ptrs := [], maps := [], fuel := k }
noncomputable def fin_s_l14Right : VV → Ms → Option (TCommand × TL01Cur × Unit) := finM [yCommand] [true, true] [.box yL01Cur]
theorem r_s_l14Right (k : Nat) (a0 : TL01Cur) : runX (c_s_l14Right k) fin_s_l14Right k 232 (pArgsV 1 [.box yL01Cur] (a0, ())) (ms1 [.box yL01Cur] (a0, ())) = s_l14Right k a0 := by kernel_rfl
noncomputable def sp_s_l14Right (k : Nat) : MSpec := .box yL01Cur fun (a0 : TL01Cur) => .body (s_l14Right k a0) (fun r => outV [yCommand] [true, true] r.1) (fun r => poV [.box yL01Cur] r.2)
noncomputable def c_s_l05Right (k : Nat) : Cfg := { eqs := [], tab := [(3, (.int .i64)), (9, .str), (22, (.slice 3 (.int .i64))), (65, ySession)], spec := [(101, sp_s_CommandText k), (231, sp_s_ConfText k)], mspec := [(215, sp_s_l01PickInt k), (222, sp_s_l05Conf k), (232, sp_s_l14Right k)], inl := [(171, Try.f171)], keep := [], join := [], hold := [], ptrs := [], maps := [], fuel := k }
noncomputable def fin_s_l05Right : VV → Ms → Option (TSession × TL01Cur × Unit) := finM [ySession] [] [.box yL01Cur, .imm (.int .i64)]
theorem r_s_l05Right (k : Nat) (a0 : TL01Cur) (a1 : Int) : runX (c_s_l05Right k) fin_s_l05Right k 171 (pArgsV 1 [.box yL01Cur, .imm (.int .i64)] (a0, a1, ())) (ms1 [.box yL01Cur, .imm (.int .i64)] (a0, a1, ())) = s_l05Right k a0 a1 := by kernel_rfl
noncomputable def sp_s_l05Right (k : Nat) : MSpec := .box yL01Cur fun (a0 : TL01Cur) => .imm (.int .i64) fun (a1 : Int) => .body (s_l05Right k a0 a1) (fun r => outV [ySession] [] r.1) (fun r => poV [.box yL01Cur, .imm (.int .i64)] r.2)
noncomputable def c_s_l05Any (k : Nat) : Cfg := { eqs := [], tab := [(3, (.int .i64)), (22, (.slice 3 (.int .i64))), (65, ySession)], spec := [(216, sp_s_l01Long k)], mspec := [(171, sp_s_l05Right k), (172, sp_s_l01Below k), (215, sp_s_l01PickInt k)], inl := [(135, Try.f135)], keep := [], join := [], hold := [], ptrs := [], maps := [], fuel := k }
noncomputable def fin_s_l05Any : VV → Ms → Option (TSession × TL01Cur × Unit) := finM [ySession] [] [.box yL01Cur]
theorem r_s_l05Any (k : Nat) (a0 : TL01Cur) : runX (c_s_l05Any k) fin_s_l05Any k 135 (pArgsV 1 [.box yL01Cur] (a0, ())) (ms1 [.box yL01Cur] (a0, ())) = s_l05Any k a0 := by kernel_rfl
noncomputable def sp_s_l05Any (k : Nat) : MSpec := .box yL01Cur fun (a0 : TL01Cur) => .body (s_l05Any k a0) (fun r => outV [ySession] [] r.1) (fun r => poV [.box yL01Cur] r.2)
noncomputable def c_s_DrawEntryText (k : Nat) : Cfg := { eqs := [], tab := [(3, (.int .i64)), (5, (.int .u8)), (53, (.slice 5 (.int .u8))), (65, ySession), (218, yL01Cur)], spec := [], mspec := [(134, sp_s_l05Index k), (135, sp_s_l05Any k)], inl := [(35, Try.f35), (121, Try.f121)], keep := [(12100002003, [0, 3, 4])], join := [], hold := [], ptrs := [], maps := [], fuel := k }
noncomputable def fin_s_DrawEntryText : VV → Ms → Option (Int × TSession) := finV [(.int .i64), ySession] []
noncomputable def V0_s_DrawEntryText (k n : Nat) (a0 : List Int) (v1 : Int) (v2 : Int) : Option (Int × TSession) := lpN (c_s_DrawEntryText k) fin_s_DrawEntryText n true 12100002003 (cd [1, 1, 0, 1, 0, 0] (bo Try.f121)) [.b 0, .s (cd [1, 1, 1] (bo Try.f121)), .fn Try.f121, .op (rg (cd [1, 0] (bo Try.f35))) ((rg (cd [1, 0] (bo Try.f35))).drop 2) 2 (some 6), .s (cd [1, 1] (bo Try.f35)), .fn Try.f35] ⟨⟨(mkT 32 0 [(0, one (.slc 5 (.int .u8) a0)), (3, one (.int .i64 v1)), (4, one (.int .i64 v2))]), [(9000000, .box [.int .i64 0, .int .i64 0, .str ByteArray.empty])]⟩, 12100002000, 2, [(3500001000, (mkT 11 0 [(0, one (.slc 5 (.int .u8) a0)), (2, one (.int .i64 0)), (3, one (.ptr 9000000 0)), (5, one (.slc 5 (.int .u8) a0))])), (0, (mkT 0 0 []))]⟩
theorem t0_s_DrawEntryText (k n : Nat) (a0 : List Int) (v1 : Int) (v2 : Int) : V0_s_DrawEntryText k (n + 1) a0 v1 v2 = b0_s_DrawEntryText k (V0_s_DrawEntryText k n) a0 v1 v2 := by kernel_rfl
theorem e_s_DrawEntryText (k : Nat) : ∀ n : Nat, V0_s_DrawEntryText k n = l0_s_DrawEntryText k n
  | 0 => (by funext a0 v1 v2; rfl)
  | n + 1 => by
    obtain h0 := e_s_DrawEntryText k n
    exact (by funext a0 v1 v2; rw [t0_s_DrawEntryText, h0] <;> rfl)
theorem u_s_DrawEntryText (k : Nat) (a0 : List Int) : runX (c_s_DrawEntryText k) fin_s_DrawEntryText k 35 [argV (.slice 5 (.int .u8)) a0] ms0 = g_s_DrawEntryText k (V0_s_DrawEntryText k k) a0 := by kernel_rfl
theorem r_s_DrawEntryText (k : Nat) (a0 : List Int) : runX (c_s_DrawEntryText k) fin_s_DrawEntryText k 35 [argV (.slice 5 (.int .u8)) a0] ms0 = s_DrawEntryText k a0 := by rw [u_s_DrawEntryText, show V0_s_DrawEntryText k k = l0_s_DrawEntryText k k from (e_s_DrawEntryText k k)] <;> rfl
noncomputable def sp_s_DrawEntryText (k : Nat) : Spec := .imm (.slice 5 (.int .u8)) fun (a0 : List Int) => .body (s_DrawEntryText k a0) (outV [(.int .i64), ySession] [])
noncomputable def c_i_ConfOk (k : Nat) : Cfg := { eqs := [], tab := [(3, (.int .i64)), (22, (.slice 3 (.int .i64)))], spec := [(129, sp_i_within k)], mspec := [], inl := [(44, Try.f44)], keep := [(4400001002, [0, 5, 6, 7])], join := [], hold := [], ptrs := [], maps := [], fuel := k }
noncomputable def fin_i_ConfOk : VV → Ms → Option Bool := finV [.bool] []
noncomputable def V0_i_ConfOk (k n : Nat) (a0 : List Int) (v1 : Int) : Option Bool := lpN (c_i_ConfOk k) fin_i_ConfOk n true 4400001002 (cd [1, 0, 1, 0, 0] (bo Try.f44)) [.b 0, .s (cd [1, 1] (bo Try.f44)), .fn Try.f44] ⟨⟨(mkT 32 0 [(0, one (.slc 3 (.int .i64) a0)), (5, one (.slc 3 (.int .i64) a0)), (6, one (.int .i64 (a0.length : Int))), (7, one (.int .i64 v1))]), []⟩, 4400001000, 1, [(0, (mkT 0 0 []))]⟩
theorem t0_i_ConfOk (k n : Nat) (a0 : List Int) (v1 : Int) : V0_i_ConfOk k (n + 1) a0 v1 = b0_i_ConfOk k (V0_i_ConfOk k n) a0 v1 := by kernel_rfl
theorem e_i_ConfOk (k : Nat) : ∀ n : Nat, V0_i_ConfOk k n = l0_i_ConfOk k n
  | 0 => (by funext a0 v1; rfl)
  | n + 1 => by
    obtain h0 := e_i_ConfOk k n
    exact (by funext a0 v1; rw [t0_i_ConfOk, h0] <;> rfl)
theorem u_i_ConfOk (k : Nat) (a0 : List Int) : runX (c_i_ConfOk k) fin_i_ConfOk k 44 [argV (.slice 3 (.int .i64)) a0] ms0 = g_i_ConfOk k (V0_i_ConfOk k k) a0 := by kernel_rfl
theorem r_i_ConfOk (k : Nat) (a0 : List Int) : runX (c_i_ConfOk k) fin_i_ConfOk k 44 [argV (.slice 3 (.int .i64)) a0] ms0 = i_ConfOk k a0 := by rw [u_i_ConfOk, show V0_i_ConfOk k k = l0_i_ConfOk k k from (e_i_ConfOk k k)] <;> rfl
noncomputable def sp_i_ConfOk (k : Nat) : Spec := .imm (.slice 3 (.int .i64)) fun (a0 : List Int) => .body (i_ConfOk k a0) (outV [.bool] [])
noncomputable def c_i_ReadConf (k : Nat) : Cfg := { eqs := [], tab := [(3, (.int .i64)), (5, (.int .u8)), (9, .str), (22, (.slice 3 (.int .i64)))], spec := [(44, sp_i_ConfOk k)], mspec := [], inl := [(41, Try.f41)], keep := [(4100001003, [0, 4, 5])], join := [], hold := [(4100001003, [(4, [0], 3, (.int .i64), false, false)])], ptrs := [], maps := [], fuel := k }
noncomputable def fin_i_ReadConf : VV → Ms → Option (List Int × Bool) := finV [(.slice 3 (.int .i64)), .bool] [true]
noncomputable def V0_i_ReadConf (k n : Nat) (a0 : ByteArray) (v1 : Int) (xs2 : List Int) : Option (List Int × Bool) := lpN (c_i_ReadConf k) fin_i_ReadConf n true 4100001003 (cd [1, 1, 0, 1, 0, 0] (bo Try.f41)) [.b 0, .s (cd [1, 1, 1] (bo Try.f41)), .fn Try.f41] ⟨⟨(mkT 23 0 [(0, one (.str a0)), (4, one (.row 9000000 none none)), (5, one (.int .i64 v1))]), [(9000000, .row 3 (.int .i64) xs2 true)]⟩, 4100001000, 1, [(0, (mkT 0 0 []))]⟩
theorem t0_i_ReadConf (k n : Nat) (a0 : ByteArray) (v1 : Int) (xs2 : List Int) : V0_i_ReadConf k (n + 1) a0 v1 xs2 = b0_i_ReadConf k (V0_i_ReadConf k n) a0 v1 xs2 := by kernel_rfl
theorem e_i_ReadConf (k : Nat) : ∀ n : Nat, V0_i_ReadConf k n = l0_i_ReadConf k n
  | 0 => (by funext a0 v1 xs2; rfl)
  | n + 1 => by
    obtain h0 := e_i_ReadConf k n
    exact (by funext a0 v1 xs2; rw [t0_i_ReadConf, h0] <;> rfl)
theorem u_i_ReadConf (k : Nat) (a0 : ByteArray) : runX (c_i_ReadConf k) fin_i_ReadConf k 41 [argV .str a0] ms0 = g_i_ReadConf k (V0_i_ReadConf k k) a0 := by kernel_rfl
theorem r_i_ReadConf (k : Nat) (a0 : ByteArray) : runX (c_i_ReadConf k) fin_i_ReadConf k 41 [argV .str a0] ms0 = i_ReadConf k a0 := by rw [u_i_ReadConf, show V0_i_ReadConf k k = l0_i_ReadConf k k from (e_i_ReadConf k k)] <;> rfl
noncomputable def sp_i_ReadConf (k : Nat) : Spec := .imm .str fun (a0 : ByteArray) => .body (i_ReadConf k a0) (outV [(.slice 3 (.int .i64)), .bool] [true])
noncomputable def c_i_EntryOk (k : Nat) : Cfg := { eqs := [], tab := [(3, (.int .i64)), (9, .str), (65, ySession)], spec := [(41, sp_i_ReadConf k), (129, sp_i_within k)], mspec := [], inl := [(136, Try.f136)], keep := [], join := [], hold := [], ptrs := [], maps := [], fuel := k }
noncomputable def fin_i_EntryOk : VV → Ms → Option Bool := finV [.bool] []
theorem r_i_EntryOk (k : Nat) (a0 : TSession) : runX (c_i_EntryOk k) fin_i_EntryOk k 136 [argV ySession a0] ms0 = i_EntryOk k a0 := by kernel_rfl
noncomputable def sp_i_EntryOk (k : Nat) : Spec := .imm ySession fun (a0 : TSession) => .body (i_EntryOk k a0) (outV [.bool] [])
noncomputable def c_i_EntryText (k : Nat) : Cfg := { eqs := [], tab := [(3, (.int .i64)), (5, (.int .u8)), (9, .str), (22, (.slice 3 (.int .i64))), (53, (.slice 5 (.int .u8))), (65, ySession)], spec := [(123, sp_i_vars k), (129, sp_i_within k), (136, sp_i_EntryOk k)], mspec := [], inl := [(36, Try.f36)], keep := [], join := [], hold := [], ptrs := [], maps := [], fuel := k }
noncomputable def fin_i_EntryText : VV → Ms → Option (ByteArray × Bool) := finV [.str, .bool] []
theorem r_i_EntryText (k : Nat) (a0 : Int) (a1 : TSession) : runX (c_i_EntryText k) fin_i_EntryText k 36 [argV (.int .i64) a0, argV ySession a1] ms0 = i_EntryText k a0 a1 := by kernel_rfl
noncomputable def sp_i_EntryText (k : Nat) : Spec := .imm (.int .i64) fun (a0 : Int) => .imm ySession fun (a1 : TSession) => .body (i_EntryText k a0 a1) (outV [.str, .bool] [])
noncomputable def c_s_ReadConf (k : Nat) : Cfg := { eqs := [], tab := [(3, (.int .i64)), (5, (.int .u8)), (9, .str), (22, (.slice 3 (.int .i64)))], spec := [(42, sp_s_ConfOk k)], mspec := [], inl := [(221, Try.f221)], keep := [(22100001003, [0, 4, 5])], join := [], hold := [], ptrs := [], maps := [], fuel := k }
noncomputable def fin_s_ReadConf : VV → Ms → Option (List Int × Bool) := finV [(.slice 3 (.int .i64)), .bool] [true]
noncomputable def V0_s_ReadConf (k n : Nat) (a0 : ByteArray) (v1 : Int) (xs2 : List Int) : Option (List Int × Bool) := lpN (c_s_ReadConf k) fin_s_ReadConf n true 22100001003 (cd [1, 1, 0, 1, 0, 0] (bo Try.f221)) [.b 0, .s (cd [1, 1, 1] (bo Try.f221)), .fn Try.f221] ⟨⟨(mkT 36 0 [(0, one (.str a0)), (4, one (.row 9000000 none none)), (5, one (.int .i64 v1))]), [(9000000, .row 3 (.int .i64) xs2 true)]⟩, 22100001000, 1, [(0, (mkT 0 0 []))]⟩
theorem t0_s_ReadConf (k n : Nat) (a0 : ByteArray) (v1 : Int) (xs2 : List Int) : V0_s_ReadConf k (n + 1) a0 v1 xs2 = b0_s_ReadConf k (V0_s_ReadConf k n) a0 v1 xs2 := by kernel_rfl
theorem e_s_ReadConf (k : Nat) : ∀ n : Nat, V0_s_ReadConf k n = l0_s_ReadConf k n
  | 0 => (by funext a0 v1 xs2; rfl)
  | n + 1 => by
    obtain h0 := e_s_ReadConf k n
    exact (by funext a0 v1 xs2; rw [t0_s_ReadConf, h0] <;> rfl)
theorem u_s_ReadConf (k : Nat) (a0 : ByteArray) : runX (c_s_ReadConf k) fin_s_ReadConf k 221 [argV .str a0] ms0 = g_s_ReadConf k (V0_s_ReadConf k k) a0 := by kernel_rfl
theorem r_s_ReadConf (k : Nat) (a0 : ByteArray) : runX (c_s_ReadConf k) fin_s_ReadConf k 221 [argV .str a0] ms0 = s_ReadConf k a0 := by rw [u_s_ReadConf, show V0_s_ReadConf k k = l0_s_ReadConf k k from (e_s_ReadConf k k)] <;> rfl
noncomputable def sp_s_ReadConf (k : Nat) : Spec := .imm .str fun (a0 : ByteArray) => .body (s_ReadConf k a0) (outV [(.slice 3 (.int .i64)), .bool] [true])
noncomputable def c_s_EntryOk (k : Nat) : Cfg := { eqs := [], tab := [(3, (.int .i64)), (9, .str), (65, ySession)], spec := [(128, sp_s_l01In k), (221, sp_s_ReadConf k)], mspec := [], inl := [(137, Try.f137)], keep := [], join := [], hold := [], ptrs := [], maps := [], fuel := k }
noncomputable def fin_s_EntryOk : VV → Ms → Option Bool := finV [.bool] []
theorem r_s_EntryOk (k : Nat) (a0 : TSession) : runX (c_s_EntryOk k) fin_s_EntryOk k 137 [argV ySession a0] ms0 = s_EntryOk k a0 := by kernel_rfl
noncomputable def sp_s_EntryOk (k : Nat) : Spec := .imm ySession fun (a0 : TSession) => .body (s_EntryOk k a0) (outV [.bool] [])
noncomputable def c_s_EntryText (k : Nat) : Cfg := { eqs := [], tab := [(3, (.int .i64)), (5, (.int .u8)), (9, .str), (53, (.slice 5 (.int .u8))), (65, ySession)], spec := [(128, sp_s_l01In k), (137, sp_s_EntryOk k), (138, sp_s_l01Var k)], mspec := [], inl := [(37, Try.f37)], keep := [], join := [], hold := [], ptrs := [], maps := [], fuel := k }
noncomputable def fin_s_EntryText : VV → Ms → Option (ByteArray × Bool) := finV [.str, .bool] []
theorem r_s_EntryText (k : Nat) (a0 : Int) (a1 : TSession) : runX (c_s_EntryText k) fin_s_EntryText k 37 [argV (.int .i64) a0, argV ySession a1] ms0 = s_EntryText k a0 a1 := by kernel_rfl
noncomputable def sp_s_EntryText (k : Nat) : Spec := .imm (.int .i64) fun (a0 : Int) => .imm ySession fun (a1 : TSession) => .body (s_EntryText k a0 a1) (outV [.str, .bool] [])
noncomputable def c_i_ReadEntry (k : Nat) : Cfg := { eqs := [], tab := [(3, (.int .i64)), (4, .bool), (9, .str), (65, ySession), (140, yL05Cur)], spec := [(129, sp_i_within k), (136, sp_i_EntryOk k)], mspec := [(102, sp_i_reader_byte k), (103, sp_i_reader_num k)], inl := [(38, Try.f38)], keep := [], join := [], hold := [], ptrs := [], maps := [], fuel := k }
noncomputable def fin_i_ReadEntry : VV → Ms → Option (Int × TSession × Bool) := finV [(.int .i64), ySession, .bool] []
theorem r_i_ReadEntry (k : Nat) (a0 : ByteArray) : runX (c_i_ReadEntry k) fin_i_ReadEntry k 38 [argV .str a0] ms0 = i_ReadEntry k a0 := by kernel_rfl
noncomputable def sp_i_ReadEntry (k : Nat) : Spec := .imm .str fun (a0 : ByteArray) => .body (i_ReadEntry k a0) (outV [(.int .i64), ySession, .bool] [])
noncomputable def c_s_l05AnyConf (k : Nat) : Cfg := { eqs := [], tab := [(22, (.slice 3 (.int .i64)))], spec := [], mspec := [(172, sp_s_l01Below k), (215, sp_s_l01PickInt k), (222, sp_s_l05Conf k)], inl := [(139, Try.f139)], keep := [], join := [], hold := [], ptrs := [], maps := [], fuel := k }
noncomputable def fin_s_l05AnyConf : VV → Ms → Option (List Int × TL01Cur × Unit) := finM [(.slice 3 (.int .i64))] [true] [.box yL01Cur]
theorem r_s_l05AnyConf (k : Nat) (a0 : TL01Cur) : runX (c_s_l05AnyConf k) fin_s_l05AnyConf k 139 (pArgsV 1 [.box yL01Cur] (a0, ())) (ms1 [.box yL01Cur] (a0, ())) = s_l05AnyConf k a0 := by kernel_rfl
noncomputable def sp_s_l05AnyConf (k : Nat) : MSpec := .box yL01Cur fun (a0 : TL01Cur) => .body (s_l05AnyConf k a0) (fun r => outV [(.slice 3 (.int .i64))] [true] r.1) (fun r => poV [.box yL01Cur] r.2)
noncomputable def c_s_DrawConfText (k : Nat) : Cfg := { eqs := [], tab := [(3, (.int .i64)), (5, (.int .u8)), (53, (.slice 5 (.int .u8))), (218, yL01Cur)], spec := [], mspec := [(139, sp_s_l05AnyConf k)], inl := [(39, Try.f39), (121, Try.f121)], keep := [(12100002003, [0, 3, 4])], join := [], hold := [], ptrs := [], maps := [], fuel := k }
noncomputable def fin_s_DrawConfText : VV → Ms → Option (List Int) := finV [(.slice 3 (.int .i64))] [true]
noncomputable def V0_s_DrawConfText (k n : Nat) (a0 : List Int) (v1 : Int) (v2 : Int) : Option (List Int) := lpN (c_s_DrawConfText k) fin_s_DrawConfText n true 12100002003 (cd [1, 1, 0, 1, 0, 0] (bo Try.f121)) [.b 0, .s (cd [1, 1, 1] (bo Try.f121)), .fn Try.f121, .op (rg (cd [1, 0] (bo Try.f39))) ((rg (cd [1, 0] (bo Try.f39))).drop 2) 2 (some 4), .s (cd [1, 1] (bo Try.f39)), .fn Try.f39] ⟨⟨(mkT 32 0 [(0, one (.slc 5 (.int .u8) a0)), (3, one (.int .i64 v1)), (4, one (.int .i64 v2))]), []⟩, 12100002000, 2, [(3900001000, (mkT 6 0 [(0, one (.slc 5 (.int .u8) a0)), (2, one (.nilS)), (3, one (.slc 5 (.int .u8) a0))])), (0, (mkT 0 0 []))]⟩
theorem t0_s_DrawConfText (k n : Nat) (a0 : List Int) (v1 : Int) (v2 : Int) : V0_s_DrawConfText k (n + 1) a0 v1 v2 = b0_s_DrawConfText k (V0_s_DrawConfText k n) a0 v1 v2 := by kernel_rfl
theorem e_s_DrawConfText (k : Nat) : ∀ n : Nat, V0_s_DrawConfText k n = l0_s_DrawConfText k n
  | 0 => (by funext a0 v1 v2; rfl)
  | n + 1 => by
    obtain h0 := e_s_DrawConfText k n
    exact (by funext a0 v1 v2; rw [t0_s_DrawConfText, h0] <;> rfl)
theorem u_s_DrawConfText (k : Nat) (a0 : List Int) : runX (c_s_DrawConfText k) fin_s_DrawConfText k 39 [argV (.slice 5 (.int .u8)) a0] ms0 = g_s_DrawConfText k (V0_s_DrawConfText k k) a0 := by kernel_rfl
theorem r_s_DrawConfText (k : Nat) (a0 : List Int) : runX (c_s_DrawConfText k) fin_s_DrawConfText k 39 [argV (.slice 5 (.int .u8)) a0] ms0 = s_DrawConfText k a0 := by rw [u_s_DrawConfText, show V0_s_DrawConfText k k = l0_s_DrawConfText k k from (e_s_DrawConfText k k)] <;> rfl
noncomputable def sp_s_DrawConfText (k : Nat) : Spec := .imm (.slice 5 (.int .u8)) fun (a0 : List Int) => .body (s_DrawConfText k a0) (outV [(.slice 3 (.int .i64))] [true])
noncomputable def c_i_ConfText (k : Nat) : Cfg := { eqs := [], tab := [(3, (.int .i64)), (5, (.int .u8)), (9, .str), (22, (.slice 3 (.int .i64))), (53, (.slice 5 (.int .u8)))], spec := [(44, sp_i_ConfOk k)], mspec := [], inl := [(40, Try.f40)], keep := [(4000001005, [4, 10, 11, 12])], join := [], hold := [(4000001005, [(4, [0], 5, (.int .u8), false, false)])], ptrs := [], maps := [], fuel := k }
noncomputable def fin_i_ConfText : VV → Ms → Option (ByteArray × Bool) := finV [.str, .bool] []
noncomputable def V0_i_ConfText (k n : Nat) (a0 : List Int) (v1 : Int) (xs2 : List Int) : Option (ByteArray × Bool) := lpN (c_i_ConfText k) fin_i_ConfText n true 4000001005 (cd [1, 1, 1, 0, 1, 0, 0] (bo Try.f40)) [.b 0, .s (cd [1, 1, 1, 1] (bo Try.f40)), .fn Try.f40] ⟨⟨(mkT 24 0 [(4, one (.row 9000000 none none)), (10, one (.slc 3 (.int .i64) a0)), (11, one (.int .i64 (a0.length : Int))), (12, one (.int .i64 v1))]), [(9000000, .row 5 (.int .u8) xs2 true)]⟩, 4000001000, 1, [(0, (mkT 0 0 []))]⟩
theorem t0_i_ConfText (k n : Nat) (a0 : List Int) (v1 : Int) (xs2 : List Int) : V0_i_ConfText k (n + 1) a0 v1 xs2 = b0_i_ConfText k (V0_i_ConfText k n) a0 v1 xs2 := by kernel_rfl
theorem e_i_ConfText (k : Nat) : ∀ n : Nat, V0_i_ConfText k n = l0_i_ConfText k n
  | 0 => (by funext a0 v1 xs2; rfl)
  | n + 1 => by
    obtain h0 := e_i_ConfText k n
    exact (by funext a0 v1 xs2; rw [t0_i_ConfText, h0] <;> rfl)
theorem u_i_ConfText (k : Nat) (a0 : List Int) : runX (c_i_ConfText k) fin_i_ConfText k 40 [argV (.slice 3 (.int .i64)) a0] ms0 = g_i_ConfText k (V0_i_ConfText k k) a0 := by kernel_rfl
theorem r_i_ConfText (k : Nat) (a0 : List Int) : runX (c_i_ConfText k) fin_i_ConfText k 40 [argV (.slice 3 (.int .i64)) a0] ms0 = i_ConfText k a0 := by rw [u_i_ConfText, show V0_i_ConfText k k = l0_i_ConfText k k from (e_i_ConfText k k)] <;> rfl
noncomputable def sp_i_ConfText (k : Nat) : Spec := .imm (.slice 3 (.int .i64)) fun (a0 : List Int) => .body (i_ConfText k a0) (outV [.str, .bool] [])
noncomputable def c_slices_Index_int_int (k : Nat) : Cfg := { eqs := [], tab := [(3, (.int .i64)), (22, (.slice 3 (.int .i64)))], spec := [], mspec := [], inl := [(223, Try.f223)], keep := [(22300001002, [0, 1, 7, 8])], join := [], hold := [], ptrs := [], maps := [], fuel := k }
noncomputable def fin_slices_Index_int_int : VV → Ms → Option Int := finV [(.int .i64)] []
noncomputable def V0_slices_Index_int_int (k n : Nat) (a0 : List Int) (a1 : Int) (v1 : Int) : Option Int := lpN (c_slices_Index_int_int k) fin_slices_Index_int_int n true 22300001002 (cd [1, 0, 1, 0, 0] (bo Try.f223)) [.b 0, .s (cd [1, 1] (bo Try.f223)), .fn Try.f223] ⟨⟨(mkT 19 0 [(0, one (.slc 3 (.int .i64) a0)), (1, one (.int .i64 a1)), (7, one (.int .i64 (a0.length : Int))), (8, one (.int .i64 v1))]), []⟩, 22300001000, 1, [(0, (mkT 0 0 []))]⟩
theorem t0_slices_Index_int_int (k n : Nat) (a0 : List Int) (a1 : Int) (v1 : Int) : V0_slices_Index_int_int k (n + 1) a0 a1 v1 = b0_slices_Index_int_int k (V0_slices_Index_int_int k n) a0 a1 v1 := by kernel_rfl
theorem e_slices_Index_int_int (k : Nat) : ∀ n : Nat, V0_slices_Index_int_int k n = l0_slices_Index_int_int k n
  | 0 => (by funext a0 a1 v1; rfl)
  | n + 1 => by
    obtain h0 := e_slices_Index_int_int k n
    exact (by funext a0 a1 v1; rw [t0_slices_Index_int_int, h0] <;> rfl)
theorem u_slices_Index_int_int (k : Nat) (a0 : List Int) (a1 : Int) : runX (c_slices_Index_int_int k) fin_slices_Index_int_int k 223 [argV (.slice 3 (.int .i64)) a0, argV (.int .i64) a1] ms0 = g_slices_Index_int_int k (V0_slices_Index_int_int k k) a0 a1 := by kernel_rfl
theorem r_slices_Index_int_int (k : Nat) (a0 : List Int) (a1 : Int) : runX (c_slices_Index_int_int k) fin_slices_Index_int_int k 223 [argV (.slice 3 (.int .i64)) a0, argV (.int .i64) a1] ms0 = slices_Index_int_int k a0 a1 := by rw [u_slices_Index_int_int, show V0_slices_Index_int_int k k = l0_slices_Index_int_int k k from (e_slices_Index_int_int k k)] <;> rfl
noncomputable def sp_slices_Index_int_int (k : Nat) : Spec := .imm (.slice 3 (.int .i64)) fun (a0 : List Int) => .imm (.int .i64) fun (a1 : Int) => .body (slices_Index_int_int k a0 a1) (outV [(.int .i64)] [])
noncomputable def c_slices_Contains_int_int (k : Nat) : Cfg := { eqs := [], tab := [], spec := [(223, sp_slices_Index_int_int k)], mspec := [], inl := [(141, Try.f141)], keep := [], join := [], hold := [], ptrs := [], maps := [], fuel := k }
noncomputable def fin_slices_Contains_int_int : VV → Ms → Option Bool := finV [.bool] []
theorem r_slices_Contains_int_int (k : Nat) (a0 : List Int) (a1 : Int) : runX (c_slices_Contains_int_int k) fin_slices_Contains_int_int k 141 [argV (.slice 3 (.int .i64)) a0, argV (.int .i64) a1] ms0 = slices_Contains_int_int k a0 a1 := by kernel_rfl
noncomputable def sp_slices_Contains_int_int (k : Nat) : Spec := .imm (.slice 3 (.int .i64)) fun (a0 : List Int) => .imm (.int .i64) fun (a1 : Int) => .body (slices_Contains_int_int k a0 a1) (outV [.bool] [])
noncomputable def c_i_Most (k : Nat) : Cfg := { eqs := [], tab := [(3, (.int .i64)), (22, (.slice 3 (.int .i64)))], spec := [(44, sp_i_ConfOk k), (141, sp_slices_Contains_int_int k)], mspec := [], inl := [(45, Try.f45)], keep := [(4500001003, [0, 1, 5, 8, 9, 10])], join := [], hold := [], ptrs := [], maps := [], fuel := k }
noncomputable def fin_i_Most : VV → Ms → Option Bool := finV [.bool] []
noncomputable def V0_i_Most (k n : Nat) (a0 : List Int) (a1 : List Int) (v1 : Int) (v2 : Int) : Option Bool := lpN (c_i_Most k) fin_i_Most n true 4500001003 (cd [1, 1, 0, 1, 0, 0] (bo Try.f45)) [.b 0, .s (cd [1, 1, 1] (bo Try.f45)), .fn Try.f45] ⟨⟨(mkT 29 0 [(0, one (.slc 3 (.int .i64) a0)), (1, one (.slc 3 (.int .i64) a1)), (5, one (.int .i64 v1)), (8, one (.slc 3 (.int .i64) a0)), (9, one (.int .i64 (a0.length : Int))), (10, one (.int .i64 v2))]), []⟩, 4500001000, 1, [(0, (mkT 0 0 []))]⟩
theorem t0_i_Most (k n : Nat) (a0 : List Int) (a1 : List Int) (v1 : Int) (v2 : Int) : V0_i_Most k (n + 1) a0 a1 v1 v2 = b0_i_Most k (V0_i_Most k n) a0 a1 v1 v2 := by kernel_rfl
theorem e_i_Most (k : Nat) : ∀ n : Nat, V0_i_Most k n = l0_i_Most k n
  | 0 => (by funext a0 a1 v1 v2; rfl)
  | n + 1 => by
    obtain h0 := e_i_Most k n
    exact (by funext a0 a1 v1 v2; rw [t0_i_Most, h0] <;> rfl)
theorem u_i_Most (k : Nat) (a0 : List Int) (a1 : List Int) : runX (c_i_Most k) fin_i_Most k 45 [argV (.slice 3 (.int .i64)) a0, argV (.slice 3 (.int .i64)) a1] ms0 = g_i_Most k (V0_i_Most k k) a0 a1 := by kernel_rfl
theorem r_i_Most (k : Nat) (a0 : List Int) (a1 : List Int) : runX (c_i_Most k) fin_i_Most k 45 [argV (.slice 3 (.int .i64)) a0, argV (.slice 3 (.int .i64)) a1] ms0 = i_Most k a0 a1 := by rw [u_i_Most, show V0_i_Most k k = l0_i_Most k k from (e_i_Most k k)] <;> rfl
noncomputable def sp_i_Most (k : Nat) : Spec := .imm (.slice 3 (.int .i64)) fun (a0 : List Int) => .imm (.slice 3 (.int .i64)) fun (a1 : List Int) => .body (i_Most k a0 a1) (outV [.bool] [])
noncomputable def c_l_FnEntries (k : Nat) : Cfg := { eqs := [65], tab := [(4, .bool), (22, (.slice 3 (.int .i64))), (65, ySession)], spec := [(25, sp_l_big k), (35, sp_s_DrawEntryText k), (36, sp_i_EntryText k), (37, sp_s_EntryText k), (38, sp_i_ReadEntry k), (39, sp_s_DrawConfText k), (40, sp_i_ConfText k), (41, sp_i_ReadConf k), (42, sp_s_ConfOk k), (43, sp_l_sameInts k), (44, sp_i_ConfOk k), (45, sp_i_Most k)], mspec := [], inl := [(6, Try.f6)], keep := [], join := [], hold := [], ptrs := [], maps := [], fuel := k }
noncomputable def fin_l_FnEntries : VV → Ms → Option Bool := finV [.bool] []
theorem r_l_FnEntries (k : Nat) (a0 : List Int) : runX (c_l_FnEntries k) fin_l_FnEntries k 6 [argV (.slice 5 (.int .u8)) a0] ms0 = l_FnEntries k a0 := by kernel_rfl
noncomputable def sp_l_FnEntries (k : Nat) : Spec := .imm (.slice 5 (.int .u8)) fun (a0 : List Int) => .body (l_FnEntries k a0) (outV [.bool] [])
noncomputable def c_s_l06Right (k : Nat) : Cfg := { eqs := [], tab := [(3, (.int .i64)), (109, (.slice 65 ySession)), (111, yLog)], spec := [], mspec := [(171, sp_s_l05Right k), (172, sp_s_l01Below k), (173, sp_s_l01Once k)], inl := [(178, Try.f178)], keep := [(17800001004, [0, 2, 3, 4, 5])], join := [], hold := [(17800001004, [(3, [0, 2], 65, ySession, false, false)])], ptrs := [], maps := [], fuel := k }
noncomputable def fin_s_l06Right : VV → Ms → Option (TLog × TL01Cur × Unit) := finM [yLog] [true] [.box yL01Cur]
noncomputable def V0_s_l06Right (k n : Nat) (v1 : Int) (v2 : Int) (v3 : List Int) (v4 : Int) (v5 : Int) (r1 : Int × TL01Cur × Unit) (r2 : Int × TL01Cur × Unit) (r3 : Int × TL01Cur × Unit) (xs6 : List TSession) : Option (TLog × TL01Cur × Unit) := lpN (c_s_l06Right k) fin_s_l06Right n true 17800001004 (cd [1, 1, 1, 0, 1, 0, 0] (bo Try.f178)) [.b 0, .s (cd [1, 1, 1, 1] (bo Try.f178)), .fn Try.f178] ⟨⟨(mkT 38 0 [(0, one (.ptr 9000000 0)), (2, one (.ptr 9000001 0)), (3, one (.ptr 9000002 0)), (4, one (.int .i64 v1)), (5, one (.int .i64 v2))]), [(9000000, .box [.slc 5 (.int .u8) v3, .int .i64 v4, .int .i64 v5]), (9000001, .box [.int .i64 0, .int .i64 0, .nilS]), (9000002, .box [.int .i64 (w64 (r1.1 * r2.1)), .int .i64 r3.1, .row 9000003 none none]), (9000003, .row 65 ySession xs6 true)]⟩, 17800001000, 1, [(0, (mkT 1 0 [(0, one (.ptr 9000000 0))]))]⟩
theorem t0_s_l06Right (k n : Nat) (v1 : Int) (v2 : Int) (v3 : List Int) (v4 : Int) (v5 : Int) (r1 : Int × TL01Cur × Unit) (r2 : Int × TL01Cur × Unit) (r3 : Int × TL01Cur × Unit) (xs6 : List TSession) : V0_s_l06Right k (n + 1) v1 v2 v3 v4 v5 r1 r2 r3 xs6 = b0_s_l06Right k (V0_s_l06Right k n) v1 v2 v3 v4 v5 r1 r2 r3 xs6 := by kernel_rfl
theorem e_s_l06Right (k : Nat) : ∀ n : Nat, V0_s_l06Right k n = l0_s_l06Right k n
  | 0 => (by funext v1 v2 v3 v4 v5 r1 r2 r3 xs6; rfl)
  | n + 1 => by
    obtain h0 := e_s_l06Right k n
    exact (by funext v1 v2 v3 v4 v5 r1 r2 r3 xs6; rw [t0_s_l06Right, h0] <;> rfl)
theorem u_s_l06Right (k : Nat) (a0 : TL01Cur) : runX (c_s_l06Right k) fin_s_l06Right k 178 (pArgsV 1 [.box yL01Cur] (a0, ())) (ms1 [.box yL01Cur] (a0, ())) = g_s_l06Right k (V0_s_l06Right k k) a0 := by kernel_rfl
theorem r_s_l06Right (k : Nat) (a0 : TL01Cur) : runX (c_s_l06Right k) fin_s_l06Right k 178 (pArgsV 1 [.box yL01Cur] (a0, ())) (ms1 [.box yL01Cur] (a0, ())) = s_l06Right k a0 := by rw [u_s_l06Right, show V0_s_l06Right k k = l0_s_l06Right k k from (e_s_l06Right k k)] <;> rfl
noncomputable def sp_s_l06Right (k : Nat) : MSpec := .box yL01Cur fun (a0 : TL01Cur) => .body (s_l06Right k a0) (fun r => outV [yLog] [true] r.1) (fun r => poV [.box yL01Cur] r.2)
noncomputable def c_s_l06Any (k : Nat) : Cfg := { eqs := [], tab := [(3, (.int .i64)), (22, (.slice 3 (.int .i64))), (65, ySession), (109, (.slice 65 ySession)), (111, yLog)], spec := [(216, sp_s_l01Long k)], mspec := [(135, sp_s_l05Any k), (172, sp_s_l01Below k), (173, sp_s_l01Once k), (178, sp_s_l06Right k), (215, sp_s_l01PickInt k)], inl := [(169, Try.f169)], keep := [(16900001013, [0, 2, 3, 4, 5])], join := [], hold := [], ptrs := [], maps := [], fuel := k }
noncomputable def fin_s_l06Any : VV → Ms → Option (TLog × TL01Cur × Unit) := finM [yLog] [true] [.box yL01Cur]
noncomputable def V0_s_l06Any (k n : Nat) (r6 : Bool × TL01Cur × Unit) (v1 : Int) (v2 : List Int) (v3 : Int) (v4 : Int) (r1 : TLog × TL01Cur × Unit) (xs5 : List TSession) : Option (TLog × TL01Cur × Unit) := lpN (c_s_l06Any k) fin_s_l06Any n true 16900001013 (cd [1, 1, 0, 1, 0, 1, 1, 1, 1, 1, 1, 1, 0, 1, 1, 1, 0, 0] (bo Try.f169)) [.b 1, .b 0, .s (cd [1, 1, 1] (bo Try.f169)), .fn Try.f169] ⟨⟨(mkT 60 0 [(0, one (.ptr 9000000 0)), (2, one (.ptr 9000001 0)), (3, one (.ptr 9000002 0)), (4, one (.bool r6.1)), (5, one (.int .i64 v1))]), [(9000000, .box [.slc 5 (.int .u8) v2, .int .i64 v3, .int .i64 v4]), (9000001, .box [.int .i64 0, .int .i64 0, .nilS]), (9000002, .box [.int .i64 r1.1.1, .int .i64 r1.1.2.1, .row 9000003 none none]), (9000003, .row 65 ySession xs5 true)]⟩, 16900001000, 1, [(0, (mkT 1 0 [(0, one (.ptr 9000000 0))]))]⟩
theorem t0_s_l06Any (k n : Nat) (r6 : Bool × TL01Cur × Unit) (v1 : Int) (v2 : List Int) (v3 : Int) (v4 : Int) (r1 : TLog × TL01Cur × Unit) (xs5 : List TSession) : V0_s_l06Any k (n + 1) r6 v1 v2 v3 v4 r1 xs5 = b0_s_l06Any k (V0_s_l06Any k n) r6 v1 v2 v3 v4 r1 xs5 := by kernel_rfl
theorem e_s_l06Any (k : Nat) : ∀ n : Nat, V0_s_l06Any k n = l0_s_l06Any k n
  | 0 => (by funext r6 v1 v2 v3 v4 r1 xs5; rfl)
  | n + 1 => by
    obtain h0 := e_s_l06Any k n
    exact (by funext r6 v1 v2 v3 v4 r1 xs5; rw [t0_s_l06Any, h0] <;> rfl)
theorem u_s_l06Any (k : Nat) (a0 : TL01Cur) : runX (c_s_l06Any k) fin_s_l06Any k 169 (pArgsV 1 [.box yL01Cur] (a0, ())) (ms1 [.box yL01Cur] (a0, ())) = g_s_l06Any k (V0_s_l06Any k k) a0 := by kernel_rfl
theorem r_s_l06Any (k : Nat) (a0 : TL01Cur) : runX (c_s_l06Any k) fin_s_l06Any k 169 (pArgsV 1 [.box yL01Cur] (a0, ())) (ms1 [.box yL01Cur] (a0, ())) = s_l06Any k a0 := by rw [u_s_l06Any, show V0_s_l06Any k k = l0_s_l06Any k k from (e_s_l06Any k k)] <;> rfl
noncomputable def sp_s_l06Any (k : Nat) : MSpec := .box yL01Cur fun (a0 : TL01Cur) => .body (s_l06Any k a0) (fun r => outV [yLog] [true] r.1) (fun r => poV [.box yL01Cur] r.2)
noncomputable def c_s_LogLast (k : Nat) : Cfg := { eqs := [], tab := [(3, (.int .i64)), (65, ySession), (109, (.slice 65 ySession)), (111, yLog)], spec := [], mspec := [], inl := [(170, Try.f170)], keep := [], join := [], hold := [], ptrs := [], maps := [], fuel := k }
noncomputable def fin_s_LogLast : VV → Ms → Option (Int × Int) := finV [(.int .i64), (.int .i64)] []
theorem r_s_LogLast (k : Nat) (a0 : TLog) : runX (c_s_LogLast k) fin_s_LogLast k 170 [argV yLog a0] ms0 = s_LogLast k a0 := by kernel_rfl
noncomputable def sp_s_LogLast (k : Nat) : Spec := .imm yLog fun (a0 : TLog) => .body (s_LogLast k a0) (outV [(.int .i64), (.int .i64)] [])
noncomputable def c_s_l01Place (k : Nat) : Cfg := { eqs := [], tab := [(22, (.slice 3 (.int .i64)))], spec := [], mspec := [(172, sp_s_l01Below k), (173, sp_s_l01Once k), (215, sp_s_l01PickInt k)], inl := [(174, Try.f174)], keep := [], join := [], hold := [], ptrs := [], maps := [], fuel := k }
noncomputable def fin_s_l01Place : VV → Ms → Option (Int × TL01Cur × Unit) := finM [(.int .i64)] [] [.box yL01Cur, .imm (.int .i64)]
theorem r_s_l01Place (k : Nat) (a0 : TL01Cur) (a1 : Int) : runX (c_s_l01Place k) fin_s_l01Place k 174 (pArgsV 1 [.box yL01Cur, .imm (.int .i64)] (a0, a1, ())) (ms1 [.box yL01Cur, .imm (.int .i64)] (a0, a1, ())) = s_l01Place k a0 a1 := by kernel_rfl
noncomputable def sp_s_l01Place (k : Nat) : MSpec := .box yL01Cur fun (a0 : TL01Cur) => .imm (.int .i64) fun (a1 : Int) => .body (s_l01Place k a0 a1) (fun r => outV [(.int .i64)] [] r.1) (fun r => poV [.box yL01Cur, .imm (.int .i64)] r.2)
noncomputable def c_s_DrawLogPut (k : Nat) : Cfg := { eqs := [], tab := [(3, (.int .i64)), (5, (.int .u8)), (53, (.slice 5 (.int .u8))), (65, ySession), (109, (.slice 65 ySession)), (111, yLog), (218, yL01Cur)], spec := [(170, sp_s_LogLast k)], mspec := [(135, sp_s_l05Any k), (169, sp_s_l06Any k), (171, sp_s_l05Right k), (172, sp_s_l01Below k), (173, sp_s_l01Once k), (174, sp_s_l01Place k)], inl := [(81, Try.f81), (121, Try.f121)], keep := [(12100002003, [0, 3, 4])], join := [], hold := [], ptrs := [], maps := [], fuel := k }
noncomputable def fin_s_DrawLogPut : VV → Ms → Option (TLog × Int × TSession) := finV [yLog, (.int .i64), ySession] [true]
noncomputable def V0_s_DrawLogPut (k n : Nat) (a0 : List Int) (v1 : Int) (v2 : Int) : Option (TLog × Int × TSession) := lpN (c_s_DrawLogPut k) fin_s_DrawLogPut n true 12100002003 (cd [1, 1, 0, 1, 0, 0] (bo Try.f121)) [.b 0, .s (cd [1, 1, 1] (bo Try.f121)), .fn Try.f121, .op (rg (cd [1, 0] (bo Try.f81))) ((rg (cd [1, 0] (bo Try.f81))).drop 2) 2 (some 11), .s (cd [1, 1] (bo Try.f81)), .fn Try.f81] ⟨⟨(mkT 32 0 [(0, one (.slc 5 (.int .u8) a0)), (3, one (.int .i64 v1)), (4, one (.int .i64 v2))]), [(9000000, .box [.int .i64 0, .int .i64 0, .nilS]), (9000001, .box [.int .i64 0, .int .i64 0, .str ByteArray.empty])]⟩, 12100002000, 2, [(8100001000, (mkT 40 0 [(0, one (.slc 5 (.int .u8) a0)), (2, one (.ptr 9000000 0)), (3, one (.int .i64 0)), (4, one (.ptr 9000001 0)), (10, one (.slc 5 (.int .u8) a0))])), (0, (mkT 0 0 []))]⟩
theorem t0_s_DrawLogPut (k n : Nat) (a0 : List Int) (v1 : Int) (v2 : Int) : V0_s_DrawLogPut k (n + 1) a0 v1 v2 = b0_s_DrawLogPut k (V0_s_DrawLogPut k n) a0 v1 v2 := by kernel_rfl
theorem e_s_DrawLogPut (k : Nat) : ∀ n : Nat, V0_s_DrawLogPut k n = l0_s_DrawLogPut k n
  | 0 => (by funext a0 v1 v2; rfl)
  | n + 1 => by
    obtain h0 := e_s_DrawLogPut k n
    exact (by funext a0 v1 v2; rw [t0_s_DrawLogPut, h0] <;> rfl)
theorem u_s_DrawLogPut (k : Nat) (a0 : List Int) : runX (c_s_DrawLogPut k) fin_s_DrawLogPut k 81 [argV (.slice 5 (.int .u8)) a0] ms0 = g_s_DrawLogPut k (V0_s_DrawLogPut k k) a0 := by kernel_rfl
theorem r_s_DrawLogPut (k : Nat) (a0 : List Int) : runX (c_s_DrawLogPut k) fin_s_DrawLogPut k 81 [argV (.slice 5 (.int .u8)) a0] ms0 = s_DrawLogPut k a0 := by rw [u_s_DrawLogPut, show V0_s_DrawLogPut k k = l0_s_DrawLogPut k k from (e_s_DrawLogPut k k)] <;> rfl
noncomputable def sp_s_DrawLogPut (k : Nat) : Spec := .imm (.slice 5 (.int .u8)) fun (a0 : List Int) => .body (s_DrawLogPut k a0) (outV [yLog, (.int .i64), ySession] [true])
noncomputable def c_i_LogOk (k : Nat) : Cfg := { eqs := [], tab := [(3, (.int .i64)), (65, ySession), (109, (.slice 65 ySession)), (111, yLog)], spec := [(129, sp_i_within k), (136, sp_i_EntryOk k)], mspec := [], inl := [(91, Try.f91)], keep := [(9100001005, [3, 34, 35, 36])], join := [], hold := [], ptrs := [], maps := [], fuel := k }
noncomputable def fin_i_LogOk : VV → Ms → Option Bool := finV [.bool] []
noncomputable def V0_i_LogOk (k n : Nat) (v1 : Int) (a0 : TLog) (v2 : Int) : Option Bool := lpN (c_i_LogOk k) fin_i_LogOk n true 9100001005 (cd [1, 1, 1, 0, 1, 0, 0] (bo Try.f91)) [.b 0, .s (cd [1, 1, 1, 1] (bo Try.f91)), .fn Try.f91] ⟨⟨(mkT 52 0 [(3, one (.int .i64 v1)), (34, one (.slc 65 ySession a0.2.2.1)), (35, one (.int .i64 (a0.2.2.1.length : Int))), (36, one (.int .i64 v2))]), []⟩, 9100001000, 1, [(0, (mkT 0 0 []))]⟩
theorem t0_i_LogOk (k n : Nat) (v1 : Int) (a0 : TLog) (v2 : Int) : V0_i_LogOk k (n + 1) v1 a0 v2 = b0_i_LogOk k (V0_i_LogOk k n) v1 a0 v2 := by kernel_rfl
theorem e_i_LogOk (k : Nat) : ∀ n : Nat, V0_i_LogOk k n = l0_i_LogOk k n
  | 0 => (by funext v1 a0 v2; rfl)
  | n + 1 => by
    obtain h0 := e_i_LogOk k n
    exact (by funext v1 a0 v2; rw [t0_i_LogOk, h0] <;> rfl)
theorem u_i_LogOk (k : Nat) (a0 : TLog) : runX (c_i_LogOk k) fin_i_LogOk k 91 [argV yLog a0] ms0 = g_i_LogOk k (V0_i_LogOk k k) a0 := by kernel_rfl
theorem r_i_LogOk (k : Nat) (a0 : TLog) : runX (c_i_LogOk k) fin_i_LogOk k 91 [argV yLog a0] ms0 = i_LogOk k a0 := by rw [u_i_LogOk, show V0_i_LogOk k k = l0_i_LogOk k k from (e_i_LogOk k k)] <;> rfl
noncomputable def sp_i_LogOk (k : Nat) : Spec := .imm yLog fun (a0 : TLog) => .body (i_LogOk k a0) (outV [.bool] [])
noncomputable def c_i_last (k : Nat) : Cfg := { eqs := [], tab := [(3, (.int .i64)), (109, (.slice 65 ySession)), (111, yLog)], spec := [], mspec := [], inl := [(175, Try.f175)], keep := [], join := [], hold := [], ptrs := [], maps := [], fuel := k }
noncomputable def fin_i_last : VV → Ms → Option Int := finV [(.int .i64)] []
theorem r_i_last (k : Nat) (a0 : TLog) : runX (c_i_last k) fin_i_last k 175 [argV yLog a0] ms0 = i_last k a0 := by kernel_rfl
noncomputable def sp_i_last (k : Nat) : Spec := .imm yLog fun (a0 : TLog) => .body (i_last k a0) (outV [(.int .i64)] [])
noncomputable def c_i_copyLog (k : Nat) : Cfg := { eqs := [], tab := [(109, (.slice 65 ySession)), (111, yLog)], spec := [], mspec := [], inl := [(176, Try.f176)], keep := [], join := [], hold := [], ptrs := [], maps := [], fuel := k }
noncomputable def fin_i_copyLog : VV → Ms → Option TLog := finV [yLog] [true]
theorem r_i_copyLog (k : Nat) (a0 : TLog) : runX (c_i_copyLog k) fin_i_copyLog k 176 [argV yLog a0] ms0 = i_copyLog k a0 := by kernel_rfl
noncomputable def sp_i_copyLog (k : Nat) : Spec := .imm yLog fun (a0 : TLog) => .body (i_copyLog k a0) (outV [yLog] [true])
noncomputable def c_i_LogPut (k : Nat) : Cfg := { eqs := [], tab := [(3, (.int .i64)), (65, ySession), (109, (.slice 65 ySession)), (111, yLog)], spec := [(91, sp_i_LogOk k), (129, sp_i_within k), (175, sp_i_last k), (176, sp_i_copyLog k)], mspec := [], inl := [(82, Try.f82)], keep := [], join := [], hold := [], ptrs := [], maps := [], fuel := k }
noncomputable def fin_i_LogPut : VV → Ms → Option (TLog × Bool) := finV [yLog, .bool] [true]
theorem r_i_LogPut (k : Nat) (a0 : TLog) (a1 : Int) (a2 : TSession) : runX (c_i_LogPut k) fin_i_LogPut k 82 [argV yLog a0, argV (.int .i64) a1, argV ySession a2] ms0 = i_LogPut k a0 a1 a2 := by kernel_rfl
noncomputable def sp_i_LogPut (k : Nat) : Spec := .imm yLog fun (a0 : TLog) => .imm (.int .i64) fun (a1 : Int) => .imm ySession fun (a2 : TSession) => .body (i_LogPut k a0 a1 a2) (outV [yLog, .bool] [true])
noncomputable def c_s_LogOk (k : Nat) : Cfg := { eqs := [], tab := [(3, (.int .i64)), (65, ySession), (109, (.slice 65 ySession)), (111, yLog)], spec := [(128, sp_s_l01In k), (137, sp_s_EntryOk k)], mspec := [], inl := [(85, Try.f85)], keep := [(8500001005, [1, 3, 4])], join := [], hold := [], ptrs := [], maps := [], fuel := k }
noncomputable def fin_s_LogOk : VV → Ms → Option Bool := finV [.bool] []
noncomputable def V0_s_LogOk (k n : Nat) (v1 : Int) (v2 : Int) (a0 : TLog) : Option Bool := lpN (c_s_LogOk k) fin_s_LogOk n true 8500001005 (cd [1, 1, 1, 0, 1, 0, 0] (bo Try.f85)) [.b 0, .s (cd [1, 1, 1, 1] (bo Try.f85)), .fn Try.f85] ⟨⟨(mkT 62 0 [(1, one (.ptr 9000000 0)), (3, one (.int .i64 v1)), (4, one (.int .i64 v2))]), [(9000000, .box [.int .i64 a0.1, .int .i64 a0.2.1, .slc 65 ySession a0.2.2.1])]⟩, 8500001000, 1, [(0, (mkT 0 0 []))]⟩
theorem t0_s_LogOk (k n : Nat) (v1 : Int) (v2 : Int) (a0 : TLog) : V0_s_LogOk k (n + 1) v1 v2 a0 = b0_s_LogOk k (V0_s_LogOk k n) v1 v2 a0 := by kernel_rfl
theorem e_s_LogOk (k : Nat) : ∀ n : Nat, V0_s_LogOk k n = l0_s_LogOk k n
  | 0 => (by funext v1 v2 a0; rfl)
  | n + 1 => by
    obtain h0 := e_s_LogOk k n
    exact (by funext v1 v2 a0; rw [t0_s_LogOk, h0] <;> rfl)
theorem u_s_LogOk (k : Nat) (a0 : TLog) : runX (c_s_LogOk k) fin_s_LogOk k 85 [argV yLog a0] ms0 = g_s_LogOk k (V0_s_LogOk k k) a0 := by kernel_rfl
theorem r_s_LogOk (k : Nat) (a0 : TLog) : runX (c_s_LogOk k) fin_s_LogOk k 85 [argV yLog a0] ms0 = s_LogOk k a0 := by rw [u_s_LogOk, show V0_s_LogOk k k = l0_s_LogOk k k from (e_s_LogOk k k)] <;> rfl
noncomputable def sp_s_LogOk (k : Nat) : Spec := .imm yLog fun (a0 : TLog) => .body (s_LogOk k a0) (outV [.bool] [])
noncomputable def c_s_l06Last (k : Nat) : Cfg := { eqs := [], tab := [(3, (.int .i64)), (109, (.slice 65 ySession)), (111, yLog)], spec := [], mspec := [], inl := [(177, Try.f177)], keep := [], join := [], hold := [], ptrs := [], maps := [], fuel := k }
noncomputable def fin_s_l06Last : VV → Ms → Option Int := finV [(.int .i64)] []
theorem r_s_l06Last (k : Nat) (a0 : TLog) : runX (c_s_l06Last k) fin_s_l06Last k 177 [argV yLog a0] ms0 = s_l06Last k a0 := by kernel_rfl
noncomputable def sp_s_l06Last (k : Nat) : Spec := .imm yLog fun (a0 : TLog) => .body (s_l06Last k a0) (outV [(.int .i64)] [])
noncomputable def c_s_LogPut (k : Nat) : Cfg := { eqs := [], tab := [(3, (.int .i64)), (65, ySession), (109, (.slice 65 ySession)), (111, yLog)], spec := [(85, sp_s_LogOk k), (128, sp_s_l01In k), (177, sp_s_l06Last k)], mspec := [], inl := [(83, Try.f83)], keep := [], join := [], hold := [], ptrs := [], maps := [], fuel := k }
noncomputable def fin_s_LogPut : VV → Ms → Option (TLog × Bool) := finV [yLog, .bool] [true]
theorem r_s_LogPut (k : Nat) (a0 : TLog) (a1 : Int) (a2 : TSession) : runX (c_s_LogPut k) fin_s_LogPut k 83 [argV yLog a0, argV (.int .i64) a1, argV ySession a2] ms0 = s_LogPut k a0 a1 a2 := by kernel_rfl
noncomputable def sp_s_LogPut (k : Nat) : Spec := .imm yLog fun (a0 : TLog) => .imm (.int .i64) fun (a1 : Int) => .imm ySession fun (a2 : TSession) => .body (s_LogPut k a0 a1 a2) (outV [yLog, .bool] [true])
noncomputable def c_l_last (k : Nat) : Cfg := { eqs := [], tab := [(3, (.int .i64)), (109, (.slice 65 ySession)), (111, yLog)], spec := [], mspec := [], inl := [(84, Try.f84)], keep := [], join := [], hold := [], ptrs := [], maps := [], fuel := k }
noncomputable def fin_l_last : VV → Ms → Option Int := finV [(.int .i64)] []
theorem r_l_last (k : Nat) (a0 : TLog) : runX (c_l_last k) fin_l_last k 84 [argV yLog a0] ms0 = l_last k a0 := by kernel_rfl
noncomputable def sp_l_last (k : Nat) : Spec := .imm yLog fun (a0 : TLog) => .body (l_last k a0) (outV [(.int .i64)] [])
noncomputable def c_l_FnPuts (k : Nat) : Cfg := { eqs := [65], tab := [(4, .bool), (65, ySession), (109, (.slice 65 ySession)), (111, yLog)], spec := [(25, sp_l_big k), (81, sp_s_DrawLogPut k), (82, sp_i_LogPut k), (83, sp_s_LogPut k), (84, sp_l_last k), (85, sp_s_LogOk k)], mspec := [], inl := [(12, Try.f12)], keep := [(1200001013, [3, 6, 10])], join := [], hold := [], ptrs := [], maps := [], fuel := k }
noncomputable def fin_l_FnPuts : VV → Ms → Option Bool := finV [.bool] []
noncomputable def V0_l_FnPuts (k n : Nat) (v1 : Int) (r2 : TLog × Int × TSession) (r3 : TLog × Bool) : Option Bool := lpN (c_l_FnPuts k) fin_l_FnPuts n true 1200001013 (cd [1, 1, 1, 1, 1, 1, 1, 1, 0, 1, 0, 0] (bo Try.f12)) [.b 0, .s (cd [1, 1, 1, 1, 1, 1, 1, 1, 1] (bo Try.f12)), .fn Try.f12] ⟨⟨(mkT 82 0 [(3, one (.ptr 9000000 0)), (6, one (.ptr 9000001 0)), (10, one (.int .i64 v1))]), [(9000000, .box [.int .i64 r2.1.1, .int .i64 r2.1.2.1, .row 9000002 none none]), (9000001, .box [.int .i64 r3.1.1, .int .i64 r3.1.2.1, .row 9000003 none none]), (9000002, .row 65 ySession r2.1.2.2.1 true), (9000003, .row 65 ySession r3.1.2.2.1 true)]⟩, 1200001000, 1, [(0, (mkT 0 0 []))]⟩
theorem t0_l_FnPuts (k n : Nat) (v1 : Int) (r2 : TLog × Int × TSession) (r3 : TLog × Bool) : V0_l_FnPuts k (n + 1) v1 r2 r3 = b0_l_FnPuts k (V0_l_FnPuts k n) v1 r2 r3 := by kernel_rfl
theorem e_l_FnPuts (k : Nat) : ∀ n : Nat, V0_l_FnPuts k n = l0_l_FnPuts k n
  | 0 => (by funext v1 r2 r3; rfl)
  | n + 1 => by
    obtain h0 := e_l_FnPuts k n
    exact (by funext v1 r2 r3; rw [t0_l_FnPuts, h0] <;> rfl)
theorem u_l_FnPuts (k : Nat) (a0 : List Int) : runX (c_l_FnPuts k) fin_l_FnPuts k 12 [argV (.slice 5 (.int .u8)) a0] ms0 = g_l_FnPuts k (V0_l_FnPuts k k) a0 := by kernel_rfl
theorem r_l_FnPuts (k : Nat) (a0 : List Int) : runX (c_l_FnPuts k) fin_l_FnPuts k 12 [argV (.slice 5 (.int .u8)) a0] ms0 = l_FnPuts k a0 := by rw [u_l_FnPuts, show V0_l_FnPuts k k = l0_l_FnPuts k k from (e_l_FnPuts k k)] <;> rfl
noncomputable def sp_l_FnPuts (k : Nat) : Spec := .imm (.slice 5 (.int .u8)) fun (a0 : List Int) => .body (l_FnPuts k a0) (outV [.bool] [])
noncomputable def c_s_LogTerm (k : Nat) : Cfg := { eqs := [], tab := [(3, (.int .i64)), (65, ySession), (109, (.slice 65 ySession)), (111, yLog)], spec := [(177, sp_s_l06Last k)], mspec := [], inl := [(182, Try.f182)], keep := [], join := [], hold := [], ptrs := [], maps := [], fuel := k }
noncomputable def fin_s_LogTerm : VV → Ms → Option Int := finV [(.int .i64)] []
theorem r_s_LogTerm (k : Nat) (a0 : TLog) (a1 : Int) : runX (c_s_LogTerm k) fin_s_LogTerm k 182 [argV yLog a0, argV (.int .i64) a1] ms0 = s_LogTerm k a0 a1 := by kernel_rfl
noncomputable def sp_s_LogTerm (k : Nat) : Spec := .imm yLog fun (a0 : TLog) => .imm (.int .i64) fun (a1 : Int) => .body (s_LogTerm k a0 a1) (outV [(.int .i64)] [])
noncomputable def c_s_LogBehind (k : Nat) : Cfg := { eqs := [], tab := [(3, (.int .i64)), (109, (.slice 65 ySession)), (111, yLog)], spec := [(85, sp_s_LogOk k), (128, sp_s_l01In k), (177, sp_s_l06Last k), (182, sp_s_LogTerm k)], mspec := [], inl := [(233, Try.f233)], keep := [], join := [], hold := [], ptrs := [], maps := [], fuel := k }
noncomputable def fin_s_LogBehind : VV → Ms → Option TLog := finV [yLog] [true]
theorem r_s_LogBehind (k : Nat) (a0 : TLog) (a1 : Int) (a2 : Int) : runX (c_s_LogBehind k) fin_s_LogBehind k 233 [argV yLog a0, argV (.int .i64) a1, argV (.int .i64) a2] ms0 = s_LogBehind k a0 a1 a2 := by kernel_rfl
noncomputable def sp_s_LogBehind (k : Nat) : Spec := .imm yLog fun (a0 : TLog) => .imm (.int .i64) fun (a1 : Int) => .imm (.int .i64) fun (a2 : Int) => .body (s_LogBehind k a0 a1 a2) (outV [yLog] [true])
noncomputable def c_s_l06Next (k : Nat) : Cfg := { eqs := [], tab := [(3, (.int .i64)), (109, (.slice 65 ySession)), (111, yLog)], spec := [(170, sp_s_LogLast k), (182, sp_s_LogTerm k), (233, sp_s_LogBehind k)], mspec := [(171, sp_s_l05Right k), (172, sp_s_l01Below k), (173, sp_s_l01Once k)], inl := [(179, Try.f179)], keep := [(17900001007, [0, 4, 6, 8, 9])], join := [], hold := [], ptrs := [], maps := [], fuel := k }
noncomputable def fin_s_l06Next : VV → Ms → Option (TLog × TL01Cur × Unit) := finM [yLog] [true] [.box yL01Cur, .imm yLog]
noncomputable def V0_s_l06Next (k n : Nat) (v1 : Int) (v2 : Int) (v3 : List Int) (v4 : Int) (v5 : Int) (a1 : TLog) (xs6 : List TSession) : Option (TLog × TL01Cur × Unit) := lpN (c_s_l06Next k) fin_s_l06Next n true 17900001007 (cd [1, 1, 1, 1, 1, 0, 1, 0, 0] (bo Try.f179)) [.b 0, .s (cd [1, 1, 1, 1, 1, 1] (bo Try.f179)), .fn Try.f179] ⟨⟨(mkT 78 0 [(0, one (.ptr 9000000 0)), (4, one (.ptr 9000001 0)), (6, one (.int .i64 v1)), (8, one (.ptr 9000002 0)), (9, one (.int .i64 v2))]), [(9000000, .box [.slc 5 (.int .u8) v3, .int .i64 v4, .int .i64 v5]), (9000001, .box [.int .i64 0, .int .i64 0, .nilS]), (9000002, .box [.int .i64 a1.1, .int .i64 a1.2.1, .row 9000003 none none]), (9000003, .row 65 ySession xs6 true)]⟩, 17900001000, 1, [(0, (mkT 2 0 [(0, one (.ptr 9000000 0))]))]⟩
theorem t0_s_l06Next (k n : Nat) (v1 : Int) (v2 : Int) (v3 : List Int) (v4 : Int) (v5 : Int) (a1 : TLog) (xs6 : List TSession) : V0_s_l06Next k (n + 1) v1 v2 v3 v4 v5 a1 xs6 = b0_s_l06Next k (V0_s_l06Next k n) v1 v2 v3 v4 v5 a1 xs6 := by kernel_rfl
theorem e_s_l06Next (k : Nat) : ∀ n : Nat, V0_s_l06Next k n = l0_s_l06Next k n
  | 0 => (by funext v1 v2 v3 v4 v5 a1 xs6; rfl)
  | n + 1 => by
    obtain h0 := e_s_l06Next k n
    exact (by funext v1 v2 v3 v4 v5 a1 xs6; rw [t0_s_l06Next, h0] <;> rfl)
theorem u_s_l06Next (k : Nat) (a0 : TL01Cur) (a1 : TLog) : runX (c_s_l06Next k) fin_s_l06Next k 179 (pArgsV 1 [.box yL01Cur, .imm yLog] (a0, a1, ())) (ms1 [.box yL01Cur, .imm yLog] (a0, a1, ())) = g_s_l06Next k (V0_s_l06Next k k) a0 a1 := by kernel_rfl
theorem r_s_l06Next (k : Nat) (a0 : TL01Cur) (a1 : TLog) : runX (c_s_l06Next k) fin_s_l06Next k 179 (pArgsV 1 [.box yL01Cur, .imm yLog] (a0, a1, ())) (ms1 [.box yL01Cur, .imm yLog] (a0, a1, ())) = s_l06Next k a0 a1 := by rw [u_s_l06Next, show V0_s_l06Next k k = l0_s_l06Next k k from (e_s_l06Next k k)] <;> rfl
noncomputable def sp_s_l06Next (k : Nat) : MSpec := .box yL01Cur fun (a0 : TL01Cur) => .imm yLog fun (a1 : TLog) => .body (s_l06Next k a0 a1) (fun r => outV [yLog] [true] r.1) (fun r => poV [.box yL01Cur, .imm yLog] r.2)
noncomputable def c_s_DrawRightLogs (k : Nat) : Cfg := { eqs := [], tab := [(3, (.int .i64)), (5, (.int .u8)), (53, (.slice 5 (.int .u8))), (111, yLog), (218, yL01Cur)], spec := [], mspec := [(178, sp_s_l06Right k), (179, sp_s_l06Next k)], inl := [(86, Try.f86), (121, Try.f121)], keep := [(12100002003, [0, 3, 4])], join := [], hold := [], ptrs := [], maps := [], fuel := k }
noncomputable def fin_s_DrawRightLogs : VV → Ms → Option (TLog × TLog) := finV [yLog, yLog] [false, true]
noncomputable def V0_s_DrawRightLogs (k n : Nat) (a0 : List Int) (v1 : Int) (v2 : Int) : Option (TLog × TLog) := lpN (c_s_DrawRightLogs k) fin_s_DrawRightLogs n true 12100002003 (cd [1, 1, 0, 1, 0, 0] (bo Try.f121)) [.b 0, .s (cd [1, 1, 1] (bo Try.f121)), .fn Try.f121, .op (rg (cd [1, 0] (bo Try.f86))) ((rg (cd [1, 0] (bo Try.f86))).drop 2) 2 (some 7), .s (cd [1, 1] (bo Try.f86)), .fn Try.f86] ⟨⟨(mkT 32 0 [(0, one (.slc 5 (.int .u8) a0)), (3, one (.int .i64 v1)), (4, one (.int .i64 v2))]), [(9000000, .box [.int .i64 0, .int .i64 0, .nilS]), (9000001, .box [.int .i64 0, .int .i64 0, .nilS])]⟩, 12100002000, 2, [(8600001000, (mkT 14 0 [(0, one (.slc 5 (.int .u8) a0)), (2, one (.ptr 9000000 0)), (3, one (.ptr 9000001 0)), (6, one (.slc 5 (.int .u8) a0))])), (0, (mkT 0 0 []))]⟩
theorem t0_s_DrawRightLogs (k n : Nat) (a0 : List Int) (v1 : Int) (v2 : Int) : V0_s_DrawRightLogs k (n + 1) a0 v1 v2 = b0_s_DrawRightLogs k (V0_s_DrawRightLogs k n) a0 v1 v2 := by kernel_rfl
theorem e_s_DrawRightLogs (k : Nat) : ∀ n : Nat, V0_s_DrawRightLogs k n = l0_s_DrawRightLogs k n
  | 0 => (by funext a0 v1 v2; rfl)
  | n + 1 => by
    obtain h0 := e_s_DrawRightLogs k n
    exact (by funext a0 v1 v2; rw [t0_s_DrawRightLogs, h0] <;> rfl)
theorem u_s_DrawRightLogs (k : Nat) (a0 : List Int) : runX (c_s_DrawRightLogs k) fin_s_DrawRightLogs k 86 [argV (.slice 5 (.int .u8)) a0] ms0 = g_s_DrawRightLogs k (V0_s_DrawRightLogs k k) a0 := by kernel_rfl
theorem r_s_DrawRightLogs (k : Nat) (a0 : List Int) : runX (c_s_DrawRightLogs k) fin_s_DrawRightLogs k 86 [argV (.slice 5 (.int .u8)) a0] ms0 = s_DrawRightLogs k a0 := by rw [u_s_DrawRightLogs, show V0_s_DrawRightLogs k k = l0_s_DrawRightLogs k k from (e_s_DrawRightLogs k k)] <;> rfl
noncomputable def sp_s_DrawRightLogs (k : Nat) : Spec := .imm (.slice 5 (.int .u8)) fun (a0 : List Int) => .body (s_DrawRightLogs k a0) (outV [yLog, yLog] [false, true])
noncomputable def c_s_DrawPlaces (k : Nat) : Cfg := { eqs := [], tab := [(3, (.int .i64)), (5, (.int .u8)), (22, (.slice 3 (.int .i64))), (53, (.slice 5 (.int .u8))), (218, yL01Cur)], spec := [], mspec := [(172, sp_s_l01Below k), (180, sp_s_l01Byte k)], inl := [(87, Try.f87), (121, Try.f121)], keep := [(8700001005, [3, 4, 5]), (12100002003, [0, 3, 4])], join := [], hold := [], ptrs := [], maps := [], fuel := k }
noncomputable def fin_s_DrawPlaces : VV → Ms → Option (List Int) := finV [(.slice 3 (.int .i64))] [true]
noncomputable def V1_s_DrawPlaces (k n : Nat) (v3 : Int) (v4 : List Int) (v5 : Int) (v6 : Int) (xs7 : List Int) : Option (List Int) := lpN (c_s_DrawPlaces k) fin_s_DrawPlaces n true 8700001005 (cd [1, 1, 1, 1, 0, 1, 0, 0] (bo Try.f87)) [.b 0, .s (cd [1, 1, 1, 1, 1] (bo Try.f87)), .fn Try.f87] ⟨⟨(mkT 21 0 [(3, one (.ptr 9000000 0)), (4, one (.row 9000001 none none)), (5, one (.int .i64 v3))]), [(9000000, .box [.slc 5 (.int .u8) v4, .int .i64 v5, .int .i64 v6]), (9000001, .row 3 (.int .i64) xs7 true)]⟩, 8700001000, 1, [(0, (mkT 0 0 []))]⟩
noncomputable def V0_s_DrawPlaces (k n : Nat) (a0 : List Int) (v1 : Int) (v2 : Int) : Option (List Int) := lpN (c_s_DrawPlaces k) fin_s_DrawPlaces n true 12100002003 (cd [1, 1, 0, 1, 0, 0] (bo Try.f121)) [.b 0, .s (cd [1, 1, 1] (bo Try.f121)), .fn Try.f121, .op (rg (cd [1, 0] (bo Try.f87))) ((rg (cd [1, 0] (bo Try.f87))).drop 2) 2 (some 7), .s (cd [1, 1] (bo Try.f87)), .fn Try.f87] ⟨⟨(mkT 32 0 [(0, one (.slc 5 (.int .u8) a0)), (3, one (.int .i64 v1)), (4, one (.int .i64 v2))]), []⟩, 12100002000, 2, [(8700001000, (mkT 21 0 [(0, one (.slc 5 (.int .u8) a0)), (2, one (.nilS)), (6, one (.slc 5 (.int .u8) a0))])), (0, (mkT 0 0 []))]⟩
theorem t1_s_DrawPlaces (k n : Nat) (v3 : Int) (v4 : List Int) (v5 : Int) (v6 : Int) (xs7 : List Int) : V1_s_DrawPlaces k (n + 1) v3 v4 v5 v6 xs7 = b1_s_DrawPlaces k (V1_s_DrawPlaces k n) v3 v4 v5 v6 xs7 := by kernel_rfl
theorem t0_s_DrawPlaces (k n : Nat) (a0 : List Int) (v1 : Int) (v2 : Int) : V0_s_DrawPlaces k (n + 1) a0 v1 v2 = b0_s_DrawPlaces k (V0_s_DrawPlaces k n) (V1_s_DrawPlaces k n) a0 v1 v2 := by kernel_rfl
theorem e_s_DrawPlaces (k : Nat) : ∀ n : Nat, V1_s_DrawPlaces k n = l1_s_DrawPlaces k n ∧ V0_s_DrawPlaces k n = l0_s_DrawPlaces k n
  | 0 => ⟨(by funext v3 v4 v5 v6 xs7; rfl), (by funext a0 v1 v2; rfl)⟩
  | n + 1 => by
    obtain ⟨h1, h0⟩ := e_s_DrawPlaces k n
    exact ⟨(by funext v3 v4 v5 v6 xs7; rw [t1_s_DrawPlaces, h1] <;> rfl), (by funext a0 v1 v2; rw [t0_s_DrawPlaces, h0, h1] <;> rfl)⟩
theorem u_s_DrawPlaces (k : Nat) (a0 : List Int) : runX (c_s_DrawPlaces k) fin_s_DrawPlaces k 87 [argV (.slice 5 (.int .u8)) a0] ms0 = g_s_DrawPlaces k (V0_s_DrawPlaces k k) a0 := by kernel_rfl
theorem r_s_DrawPlaces (k : Nat) (a0 : List Int) : runX (c_s_DrawPlaces k) fin_s_DrawPlaces k 87 [argV (.slice 5 (.int .u8)) a0] ms0 = s_DrawPlaces k a0 := by rw [u_s_DrawPlaces, show V0_s_DrawPlaces k k = l0_s_DrawPlaces k k from (e_s_DrawPlaces k k).2] <;> rfl
noncomputable def sp_s_DrawPlaces (k : Nat) : Spec := .imm (.slice 5 (.int .u8)) fun (a0 : List Int) => .body (s_DrawPlaces k a0) (outV [(.slice 3 (.int .i64))] [true])
noncomputable def c_i_hasEntry (k : Nat) : Cfg := { eqs := [], tab := [(3, (.int .i64)), (109, (.slice 65 ySession)), (111, yLog)], spec := [(129, sp_i_within k)], mspec := [], inl := [(181, Try.f181)], keep := [], join := [], hold := [], ptrs := [], maps := [], fuel := k }
noncomputable def fin_i_hasEntry : VV → Ms → Option Bool := finV [.bool] []
theorem r_i_hasEntry (k : Nat) (a0 : TLog) (a1 : Int) : runX (c_i_hasEntry k) fin_i_hasEntry k 181 [argV yLog a0, argV (.int .i64) a1] ms0 = i_hasEntry k a0 a1 := by kernel_rfl
noncomputable def sp_i_hasEntry (k : Nat) : Spec := .imm yLog fun (a0 : TLog) => .imm (.int .i64) fun (a1 : Int) => .body (i_hasEntry k a0 a1) (outV [.bool] [])
noncomputable def c_i_LogTerm (k : Nat) : Cfg := { eqs := [], tab := [(3, (.int .i64)), (65, ySession), (109, (.slice 65 ySession)), (111, yLog)], spec := [(181, sp_i_hasEntry k)], mspec := [], inl := [(88, Try.f88)], keep := [], join := [], hold := [], ptrs := [], maps := [], fuel := k }
noncomputable def fin_i_LogTerm : VV → Ms → Option Int := finV [(.int .i64)] []
theorem r_i_LogTerm (k : Nat) (a0 : TLog) (a1 : Int) : runX (c_i_LogTerm k) fin_i_LogTerm k 88 [argV yLog a0, argV (.int .i64) a1] ms0 = i_LogTerm k a0 a1 := by kernel_rfl
noncomputable def sp_i_LogTerm (k : Nat) : Spec := .imm yLog fun (a0 : TLog) => .imm (.int .i64) fun (a1 : Int) => .body (i_LogTerm k a0 a1) (outV [(.int .i64)] [])
noncomputable def c_i_LogBehind (k : Nat) : Cfg := { eqs := [], tab := [(3, (.int .i64)), (109, (.slice 65 ySession)), (111, yLog)], spec := [(88, sp_i_LogTerm k), (91, sp_i_LogOk k), (129, sp_i_within k), (175, sp_i_last k)], mspec := [], inl := [(89, Try.f89)], keep := [], join := [], hold := [], ptrs := [], maps := [], fuel := k }
noncomputable def fin_i_LogBehind : VV → Ms → Option TLog := finV [yLog] [true]
theorem r_i_LogBehind (k : Nat) (a0 : TLog) (a1 : Int) (a2 : Int) : runX (c_i_LogBehind k) fin_i_LogBehind k 89 [argV yLog a0, argV (.int .i64) a1, argV (.int .i64) a2] ms0 = i_LogBehind k a0 a1 a2 := by kernel_rfl
noncomputable def sp_i_LogBehind (k : Nat) : Spec := .imm yLog fun (a0 : TLog) => .imm (.int .i64) fun (a1 : Int) => .imm (.int .i64) fun (a2 : Int) => .body (i_LogBehind k a0 a1 a2) (outV [yLog] [true])
noncomputable def c_i_LogLast (k : Nat) : Cfg := { eqs := [], tab := [(3, (.int .i64)), (65, ySession), (109, (.slice 65 ySession)), (111, yLog)], spec := [], mspec := [], inl := [(90, Try.f90)], keep := [], join := [], hold := [], ptrs := [], maps := [], fuel := k }
noncomputable def fin_i_LogLast : VV → Ms → Option (Int × Int) := finV [(.int .i64), (.int .i64)] []
theorem r_i_LogLast (k : Nat) (a0 : TLog) : runX (c_i_LogLast k) fin_i_LogLast k 90 [argV yLog a0] ms0 = i_LogLast k a0 := by kernel_rfl
noncomputable def sp_i_LogLast (k : Nat) : Spec := .imm yLog fun (a0 : TLog) => .body (i_LogLast k a0) (outV [(.int .i64), (.int .i64)] [])
noncomputable def c_i_Shared (k : Nat) : Cfg := { eqs := [65], tab := [(3, (.int .i64)), (65, ySession), (109, (.slice 65 ySession)), (111, yLog)], spec := [(88, sp_i_LogTerm k), (91, sp_i_LogOk k), (181, sp_i_hasEntry k)], mspec := [], inl := [(92, Try.f92)], keep := [(9200001005, [2, 3, 5, 6])], join := [], hold := [], ptrs := [], maps := [], fuel := k }
noncomputable def fin_i_Shared : VV → Ms → Option Int := finV [(.int .i64)] []
noncomputable def V0_i_Shared (k n : Nat) (a1 : TLog) (a0 : TLog) (v1 : Int) : Option Int := lpN (c_i_Shared k) fin_i_Shared n true 9200001005 (cd [1, 1, 1, 1, 0, 0, 0] (bo Try.f92)) [.b 0, .s (cd [1, 1, 1, 1, 1] (bo Try.f92)), .fn Try.f92] ⟨⟨(mkT 77 0 [(2, one (.ptr 9000000 0)), (3, one (.ptr 9000001 0)), (5, one (.int .i64 (if a1.1 > a0.1 then a1.1 else a0.1))), (6, one (.int .i64 v1))]), [(9000000, .box [.int .i64 a0.1, .int .i64 a0.2.1, .slc 65 ySession a0.2.2.1]), (9000001, .box [.int .i64 a1.1, .int .i64 a1.2.1, .slc 65 ySession a1.2.2.1])]⟩, 9200001000, 1, [(0, (mkT 0 0 []))]⟩
theorem t0_i_Shared (k n : Nat) (a1 : TLog) (a0 : TLog) (v1 : Int) : V0_i_Shared k (n + 1) a1 a0 v1 = b0_i_Shared k (V0_i_Shared k n) a1 a0 v1 := by kernel_rfl
theorem e_i_Shared (k : Nat) : ∀ n : Nat, V0_i_Shared k n = l0_i_Shared k n
  | 0 => (by funext a1 a0 v1; rfl)
  | n + 1 => by
    obtain h0 := e_i_Shared k n
    exact (by funext a1 a0 v1; rw [t0_i_Shared, h0] <;> rfl)
theorem u_i_Shared (k : Nat) (a0 : TLog) (a1 : TLog) : runX (c_i_Shared k) fin_i_Shared k 92 [argV yLog a0, argV yLog a1] ms0 = g_i_Shared k (V0_i_Shared k k) a0 a1 := by kernel_rfl
theorem r_i_Shared (k : Nat) (a0 : TLog) (a1 : TLog) : runX (c_i_Shared k) fin_i_Shared k 92 [argV yLog a0, argV yLog a1] ms0 = i_Shared k a0 a1 := by rw [u_i_Shared, show V0_i_Shared k k = l0_i_Shared k k from (e_i_Shared k k)] <;> rfl
noncomputable def sp_i_Shared (k : Nat) : Spec := .imm yLog fun (a0 : TLog) => .imm yLog fun (a1 : TLog) => .body (i_Shared k a0 a1) (outV [(.int .i64)] [])
noncomputable def c_s_Shared (k : Nat) : Cfg := { eqs := [65], tab := [(3, (.int .i64)), (65, ySession), (109, (.slice 65 ySession)), (111, yLog)], spec := [(85, sp_s_LogOk k), (177, sp_s_l06Last k), (182, sp_s_LogTerm k)], mspec := [], inl := [(93, Try.f93)], keep := [(9300001009, [2, 3, 6])], join := [], hold := [], ptrs := [], maps := [], fuel := k }
noncomputable def fin_s_Shared : VV → Ms → Option Int := finV [(.int .i64)] []
noncomputable def V0_s_Shared (k n : Nat) (v1 : Int) (a0 : TLog) (a1 : TLog) : Option Int := lpN (c_s_Shared k) fin_s_Shared n true 9300001009 (cd [1, 1, 1, 1, 1, 1, 0, 0, 0] (bo Try.f93)) [.b 0, .s (cd [1, 1, 1, 1, 1, 1, 1] (bo Try.f93)), .fn Try.f93] ⟨⟨(mkT 69 0 [(2, one (.ptr 9000000 0)), (3, one (.ptr 9000001 0)), (6, one (.int .i64 v1))]), [(9000000, .box [.int .i64 a0.1, .int .i64 a0.2.1, .slc 65 ySession a0.2.2.1]), (9000001, .box [.int .i64 a1.1, .int .i64 a1.2.1, .slc 65 ySession a1.2.2.1])]⟩, 9300001000, 1, [(0, (mkT 0 0 []))]⟩
theorem t0_s_Shared (k n : Nat) (v1 : Int) (a0 : TLog) (a1 : TLog) : V0_s_Shared k (n + 1) v1 a0 a1 = b0_s_Shared k (V0_s_Shared k n) v1 a0 a1 := by kernel_rfl
theorem e_s_Shared (k : Nat) : ∀ n : Nat, V0_s_Shared k n = l0_s_Shared k n
  | 0 => (by funext v1 a0 a1; rfl)
  | n + 1 => by
    obtain h0 := e_s_Shared k n
    exact (by funext v1 a0 a1; rw [t0_s_Shared, h0] <;> rfl)
theorem u_s_Shared (k : Nat) (a0 : TLog) (a1 : TLog) : runX (c_s_Shared k) fin_s_Shared k 93 [argV yLog a0, argV yLog a1] ms0 = g_s_Shared k (V0_s_Shared k k) a0 a1 := by kernel_rfl
theorem r_s_Shared (k : Nat) (a0 : TLog) (a1 : TLog) : runX (c_s_Shared k) fin_s_Shared k 93 [argV yLog a0, argV yLog a1] ms0 = s_Shared k a0 a1 := by rw [u_s_Shared, show V0_s_Shared k k = l0_s_Shared k k from (e_s_Shared k k)] <;> rfl
noncomputable def sp_s_Shared (k : Nat) : Spec := .imm yLog fun (a0 : TLog) => .imm yLog fun (a1 : TLog) => .body (s_Shared k a0 a1) (outV [(.int .i64)] [])
noncomputable def c_l_FnLogs (k : Nat) : Cfg := { eqs := [65], tab := [(3, (.int .i64)), (22, (.slice 3 (.int .i64))), (65, ySession), (109, (.slice 65 ySession)), (111, yLog)], spec := [(25, sp_l_big k), (84, sp_l_last k), (86, sp_s_DrawRightLogs k), (87, sp_s_DrawPlaces k), (88, sp_i_LogTerm k), (89, sp_i_LogBehind k), (90, sp_i_LogLast k), (91, sp_i_LogOk k), (92, sp_i_Shared k), (93, sp_s_Shared k)], mspec := [], inl := [(13, Try.f13)], keep := [(1300001013, [3, 4, 6, 8, 13]), (1300001021, [3, 4, 14, 15])], join := [], hold := [], ptrs := [], maps := [], fuel := k }
noncomputable def fin_l_FnLogs : VV → Ms → Option Bool := finV [.bool] []
noncomputable def V1_l_FnLogs (k n : Nat) (r10 : Int) (v2 : Int) (r2 : TLog × TLog) : Option Bool := lpN (c_l_FnLogs k) fin_l_FnLogs n true 1300001021 (cd [1, 1, 1, 1, 1, 1, 1, 1, 1, 1, 1, 1, 1, 0, 1, 0, 0] (bo Try.f13)) [.b 2, .s (cd [1, 1, 1, 1, 1, 1, 1, 1, 1, 1, 1, 1, 1, 1] (bo Try.f13)), .fn Try.f13] ⟨⟨(mkT 156 0 [(3, one (.ptr 9000000 0)), (4, one (.ptr 9000001 0)), (14, one (.int .i64 r10)), (15, one (.int .i64 v2))]), [(9000000, .box [.int .i64 r2.1.1, .int .i64 r2.1.2.1, .slc 65 ySession r2.1.2.2.1]), (9000001, .box [.int .i64 r2.2.1, .int .i64 r2.2.2.1, .row 9000002 none none]), (9000002, .row 65 ySession r2.2.2.2.1 true)]⟩, 1300001000, 1, [(0, (mkT 0 0 []))]⟩
noncomputable def V0_l_FnLogs (k n : Nat) (r2 : TLog × TLog) (r3 : List Int) (v1 : Int) (r5 : TLog) : Option Bool := lpN (c_l_FnLogs k) fin_l_FnLogs n true 1300001013 (cd [1, 1, 1, 1, 1, 1, 1, 1, 1, 1, 0, 1, 0, 0] (bo Try.f13)) [.b 0, .s (cd [1, 1, 1, 1, 1, 1, 1, 1, 1, 1, 1] (bo Try.f13)), .fn Try.f13] ⟨⟨(mkT 156 0 [(3, one (.ptr 9000000 0)), (4, one (.ptr 9000001 0)), (6, one (.int .i64 (w64 (r2.1.1 + (Int.tmod (rd 0 r3 0) (w64 ((r2.1.2.2.1.length : Int) + 1))))))), (8, one (.ptr 9000002 0)), (13, one (.int .i64 v1))]), [(9000000, .box [.int .i64 r2.1.1, .int .i64 r2.1.2.1, .slc 65 ySession r2.1.2.2.1]), (9000001, .box [.int .i64 r2.2.1, .int .i64 r2.2.2.1, .row 9000003 none none]), (9000002, .box [.int .i64 r5.1, .int .i64 r5.2.1, .row 9000004 none none]), (9000003, .row 65 ySession r2.2.2.2.1 true), (9000004, .row 65 ySession r5.2.2.1 true)]⟩, 1300001000, 1, [(0, (mkT 0 0 []))]⟩
theorem t1_l_FnLogs (k n : Nat) (r10 : Int) (v2 : Int) (r2 : TLog × TLog) : V1_l_FnLogs k (n + 1) r10 v2 r2 = b1_l_FnLogs k (V1_l_FnLogs k n) r10 v2 r2 := by kernel_rfl
theorem t0_l_FnLogs (k n : Nat) (r2 : TLog × TLog) (r3 : List Int) (v1 : Int) (r5 : TLog) : V0_l_FnLogs k (n + 1) r2 r3 v1 r5 = b0_l_FnLogs k (V0_l_FnLogs k n) (V1_l_FnLogs k n) r2 r3 v1 r5 := by kernel_rfl
theorem e_l_FnLogs (k : Nat) : ∀ n : Nat, V1_l_FnLogs k n = l1_l_FnLogs k n ∧ V0_l_FnLogs k n = l0_l_FnLogs k n
  | 0 => ⟨(by funext r10 v2 r2; rfl), (by funext r2 r3 v1 r5; rfl)⟩
  | n + 1 => by
    obtain ⟨h1, h0⟩ := e_l_FnLogs k n
    exact ⟨(by funext r10 v2 r2; rw [t1_l_FnLogs, h1] <;> rfl), (by funext r2 r3 v1 r5; rw [t0_l_FnLogs, h0, h1] <;> rfl)⟩
theorem u_l_FnLogs (k : Nat) (a0 : List Int) : runX (c_l_FnLogs k) fin_l_FnLogs k 13 [argV (.slice 5 (.int .u8)) a0] ms0 = g_l_FnLogs k (V0_l_FnLogs k k) a0 := by kernel_rfl
theorem r_l_FnLogs (k : Nat) (a0 : List Int) : runX (c_l_FnLogs k) fin_l_FnLogs k 13 [argV (.slice 5 (.int .u8)) a0] ms0 = l_FnLogs k a0 := by rw [u_l_FnLogs, show V0_l_FnLogs k k = l0_l_FnLogs k k from (e_l_FnLogs k k).2] <;> rfl
noncomputable def sp_l_FnLogs (k : Nat) : Spec := .imm (.slice 5 (.int .u8)) fun (a0 : List Int) => .body (l_FnLogs k a0) (outV [.bool] [])
end Go.Vm
